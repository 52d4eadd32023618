/- Local variables that are written no more: told as data. -/
import Derived.Test.YtcjcfpbbhmhlbaaV23
set_option linter.unusedVariables false
set_option linter.unusedSimpArgs false
namespace Go.Vc
def capsClear (o : Nat) : List (Nat × Nat) → Bool
  | [] => true
  | p :: ps => bif p.1 == o then false else capsClear o ps
def AC.fixp (o : Nat) (ds : List DV) : AC → AC
  | .ptr p j => bif p == o then .re (ds.drop j) else .ptr p j
  | .fn f caps => bif capsClear o caps then .fn f caps else .junk
  | x => x
/-- a local variable that is written no more -/
def ASt.fix (st : ASt) (o : Nat) : ASt := match st.obj o with
  | .cells _ cs => match dvs cs with
    | some ds => (st.map (AC.fixp o ds)).setObj o .gone
    | none => st
  | _ => st
section
variable {P : Program} {T : Tab} {F : Fr} {st : ASt} {hs : Nat → Value} {a : Act} {w : World}
theorem capsClear_spec {o : Nat} : ∀ {l : List (Nat × Nat)}, capsClear o l = true → ∀ p ∈ l, p.1 ≠ o
  | [], _, p, hp => by cases hp
  | q :: l, h, p, hp => by
    simp only [capsClear] at h
    cases hq : (q.1 == o) with
    | true => rw [hq] at h; cases h
    | false =>
      rw [hq] at h
      rcases List.mem_cons.1 hp with rfl | hp
      · simpa using hq
      · exact capsClear_spec h p hp
theorem Sim.fixd (h : Sim F st hs a w) (o : Nat) : Sim F (st.fix o) hs a w := by
  unfold ASt.fix
  cases hob : st.obj o <;> simp only <;> try exact h
  rename_i ty cs
  cases hds : dvs cs with
  | none => exact h
  | some ds =>
    have ho := obj_some hob (by simp)
    obtain ⟨b, vals, e, hb, hc⟩ := h.good.rel o _ ho
    obtain ⟨hl, hd⟩ := dvs_RD hds hc
    refine h.remap ho (fun p _ => rfl) (Keep.refl _ w) (fun b hb => hb.elim) (fun _ => rfl) (fun {O'} hm hlose {x v} hr => ?_) fun {O'} hm => trivial
    have keep : ∀ {x}, RC w (avoid F st.objs hs) hs x v → RC w O' hs x v := fun h => RC.mono (Nat.le_refl _) hm h
    cases x <;> simp only [AC.fixp] <;> try exact keep hr
    case ptr p j =>
      cases hp : (p == o) with
      | false => exact keep hr
      | true =>
        have : p = o := by simpa using hp
        subst this
        obtain ⟨b', e1, rfl⟩ := hr
        rw [e] at e1
        simp only [Value.pointer.injEq, Option.some.injEq, Addr.mk.injEq, and_true] at e1
        subst e1
        refine ⟨b, j, rfl, (Array.getElem?_eq_some_iff.1 hb).1, hlose b (by simp [foot, hblk, e]) (fun e => e), fun k d hk => ?_⟩
        rw [List.getElem?_drop] at hk
        have hlt : j + k < vals.toList.length := by rw [← hl]; exact (List.getElem?_eq_some_iff.1 hk).1
        refine ⟨vals.toList[j + k], ?_, RD.mono (Nat.le_refl _) hm (hd (j + k) d _ hk (List.getElem?_eq_getElem hlt))⟩
        rw [cell_of_row w b (j + k) vals ty (0, 0) hb]
        simp at hlt ⊢
    case fn f caps =>
      cases capsClear o caps with
      | true => exact keep hr
      | false => exact trivial
theorem AWP.fix {c : Code} {Q : Exit → ASt → Prop} {st : ASt} (o : Nat) (h : AWP P c Q (st.fix o)) : AWP P c Q st := fun F hs a w hS => h F hs a w (hS.fixd o)
theorem DrawAt.fix {id : Nat} {ops : Array Oper} {st : ASt} {K : ASt → Prop} (o : Nat) (h : DrawAt P id ops (st.fix o) K) : DrawAt P id ops st K := AWP.fix o h
theorem LoopAt.fix {body : Code} {Q : Exit → ASt → Prop} {st : ASt} (o : Nat) (h : LoopAt P body Q (st.fix o)) : LoopAt P body Q st := AWP.fix o h
theorem LoopAt.freeze {body : Code} {Q : Exit → ASt → Prop} {st : ASt} (o : Nat) (h : LoopAt P body Q (st.freeze o)) : LoopAt P body Q st := AWP.freeze o h
theorem DrawAt.freeze {id : Nat} {ops : Array Oper} {st : ASt} {K : ASt → Prop} (o : Nat) (h : DrawAt P id ops (st.freeze o) K) : DrawAt P id ops st K := AWP.freeze o h
/-- the last objects are dropped, slots forgotten -/
theorem LoopAt.less {body : Code} {Q : Exit → ASt → Prop} {st st' : ASt} (hl : LessC st st') (h : LoopAt P body Q st') : LoopAt P body Q st := AWP.less h hl.less
theorem DrawAt.less {id : Nat} {ops : Array Oper} {st st' : ASt} {K : ASt → Prop} (hl : LessC st st') (h : DrawAt P id ops st' K) : DrawAt P id ops st K := AWP.less h hl.less

/-! ### Objects under other numbers -/
def ASt.renum (st : ASt) (keep : List Nat) : ASt := { slots := st.slots.map (AV.map (AC.ren fun p => findIx p keep 0)), objs := keepObjs st.objs keep, n0 := st.n0 }
def RenOK (n0 : Nat) (keep : List Nat) : Prop := keep.take n0 = List.range n0 ∧ n0 ≤ keep.length ∧ keep.Nodup
theorem Sim.renum (h : Sim F st hs a w) {keep : List Nat} (hk : RenOK st.n0 keep) : Sim F (st.renum keep) (keepH hs keep) a w := by
  obtain ⟨k1, k2, k3⟩ := hk
  have hO' : ∀ b, avoid F (st.renum keep).objs (keepH hs keep) b → avoid F st.objs hs b := fun b hb => hb.imp (fun h => by
    obtain ⟨k, o, ob, h1, h2, h3⟩ := own_keep h
    exact ⟨o, ob, h2, h3⟩) id
  have hD : ∀ {d v}, RD w (avoid F st.objs hs) d v → RD w (avoid F (st.renum keep).objs (keepH hs keep)) d v := fun hr =>
    RD.mono (Nat.le_refl _) (fun b _ hn => ⟨rfl, fun hb => hn (hO' b hb)⟩) hr
  have hC : ∀ {x v}, RC w (avoid F st.objs hs) hs x v → RC w (avoid F (st.renum keep).objs (keepH hs keep)) (keepH hs keep) (x.ren fun p => findIx p keep 0) v := fun hr =>
    RC.ren (fun o p hp => keepH_some (by simpa using (findIx_spec hp).2)) hD (fun b _ hn hb => hn (hO' b hb)) hr
  refine ⟨by simpa [ASt.renum] using h.len, fun i av v h1 h2 => ?_, ⟨fun k ob hk => ?_, fun k k' ob ob' b hk hk' h1 h2 => ?_⟩, h.defers, h.keep, fun b hb => ?_, fun o ho => ?_, h.fx, fun o ho => ?_, ?_⟩
  · simp only [ASt.renum, List.getElem?_map] at h1
    cases hs1 : st.slots[i]? with
    | none => rw [hs1] at h1; cases h1
    | some y => rw [hs1] at h1; cases h1; exact (h.slots i y v hs1 h2).map hC
  · obtain ⟨o, h1, rfl⟩ := keepObjs_get hk
    rw [keepH_some h1]
    cases ho : st.objs[o]? with
    | none => simp [List.getD, ho]; exact trivial
    | some ob => simpa [List.getD, ho] using (h.good.rel o ob ho).ren hC hD
  · obtain ⟨o, e1, rfl⟩ := keepObjs_get hk
    obtain ⟨o', e2, rfl⟩ := keepObjs_get hk'
    rw [foot_map, keepH_some e1] at h1
    rw [foot_map, keepH_some e2] at h2
    cases ho : st.objs[o]? with
    | none => simp [List.getD, ho, foot] at h1
    | some ob =>
      cases ho' : st.objs[o']? with
      | none => simp [List.getD, ho', foot] at h2
      | some ob' =>
        simp only [List.getD, ho, ho', Option.getD_some] at h1 h2
        have := h.good.disj o o' ob ob' b ho ho' h1 h2
        subst this
        exact getElem?_inj_nodup k3 e1 e2
  · obtain ⟨k, o, ob, h1, h2, h3⟩ := own_keep hb
    exact h.ownb b ⟨o, ob, h2, h3⟩
  · have ho' : o < st.n0 := ho
    have h1 : keep[o]? = some o := by
      have : (keep.take st.n0)[o]? = (List.range st.n0)[o]? := by rw [k1]
      rw [List.getElem?_take, if_pos ho', List.getElem?_range ho'] at this
      exact this
    rw [keepH_some h1]
    exact h.fix o ho'
  · have : keep[o]? = none := List.getElem?_eq_none (by simpa [ASt.renum, keepObjs] using ho)
    simp [keepH, this]
  · simpa [ASt.renum, keepObjs] using k2
/-- a loop whose objects come under other numbers from round to round -/
theorem LoopAt.invR {ι : Type _} {body : Code} {Q : Exit → ASt → Prop} {st : ASt} (vars : ι → List (Nat × AV)) (objs : ι → List AObj) (R : ι → Prop) (μ : ι → Nat) (hT : TabOK P T) (keep0 keep : List Nat)
    (x0 : ι) (h0 : R x0) (hk0 : RenOK st.n0 keep0) (hl : LessC (st.renum keep0) (headSt (st.renum keep0) body (vars x0) (objs x0)))
    (round : ∀ x, R x → VCp P T body (fun e st' => match e with
      | .normal => ∃ x', R x' ∧ μ x' < μ x ∧ RenOK st'.n0 keep ∧ LessC (st'.renum keep) (headSt (st.renum keep0) body (vars x') (objs x'))
      | .exit i => Q (.exit i) st'
      | .ret => Q .ret st'
      | _ => False) (headSt (st.renum keep0) body (vars x) (objs x))) : LoopAt P body Q st := by
  intro F hs a w hS
  obtain ⟨hs', hS'⟩ := (hS.renum hk0).less hl.less
  refine wp_loop_ghost (fun n a w => ∃ x hs, μ x = n ∧ R x ∧ Sim F (headSt (st.renum keep0) body (vars x) (objs x)) hs a w) (μ x0) ⟨x0, hs', rfl, h0, hS'⟩ ?_
  rintro n a w ⟨x, hs, rfl, hR, hS⟩
  refine wp_mono (VC_sound hT body _ _ (round x hR) F hs a w hS) fun e a' w' hQ => ?_
  cases e with
  | outgrown => exact hQ.elim
  | panic c => exact hQ.elim
  | normal =>
    obtain ⟨st', hs1, ⟨x', hR', hμ, hk, hl'⟩, hS1⟩ := hQ
    obtain ⟨hs2, hS2⟩ := (hS1.renum hk).less hl'.less
    exact ⟨μ x', hμ, x', hs2, rfl, hR', hS2⟩
  | exit i => exact hQ
  | ret => exact hQ
  | goto l => obtain ⟨_, _, h, _⟩ := hQ; exact h.elim
/-- a contract with arguments of which less is known -/
theorem ACall.args {f : FuncId} {args args' : List AV} {objs : List AObj} {K : AV → List AObj → Prop} (h : ACall P f args objs K) (hl : args'.length = args.length)
    (ha : ∀ (i : Nat) (x y : AV), args[i]? = some x → args'[i]? = some y → ∀ (w : World) (O : Nat → Prop) (hs : Nat → Value) (v : Value), RV w O hs y v → RV w O hs x v) : ACall P f args' objs K := by
  intro X hs w vals h1 h2 h3 h4 h5
  refine h X hs w vals h1 h2 h3 (h4.trans hl) fun i x v hx hv => ?_
  have hlt : i < args'.length := by rw [hl]; exact (List.getElem?_eq_some_iff.1 hx).1
  exact ha i x _ hx (List.getElem?_eq_getElem hlt) _ _ _ _ (h5 i _ v (List.getElem?_eq_getElem hlt) hv)
theorem nil_rd {size : Nat} {α : Type} {z : α} {enc : α → List DV} {O : Nat → Prop} {v : Value} (h : RV w O hs (.c .nil) v) : RV w O hs (.c (.rd size α z enc [])) v := by
  have : v = .slice none 0 0 := h
  subst this
  exact .empty size α z enc none 0 (by simp [maxLen]) fun _ => rfl

/-- an own row in the place of a nil slice in a local variable -/
def adoptC (st : ASt) (o j : Nat) (ty : TypeId) (size : Nat) (α : Type) (z : α) (enc : α → List DV) : ASt := match st.obj o with
  | .cells t cs => newObj (st.setObj o (.cells t (cs.set j (.sl st.objs.length)))) (.row ty size α z enc [])
  | _ => st
def isNilAt (st : ASt) (o j : Nat) : Prop := match st.obj o with
  | .cells _ cs => match cs[j]? with
    | some x => match x with
      | .nil => True
      | _ => False
    | none => False
  | _ => False
theorem Sim.adoptC (h : Sim F st hs a w) (o j : Nat) (ty : TypeId) (size : Nat) (α : Type) (z : α) (enc : α → List DV) (hn : isNilAt st o j) (henc : ∀ x, (enc x).length = size) :
    ∃ hs', Sim F (adoptC st o j ty size α z enc) hs' a w := by
  unfold isNilAt at hn
  cases hob : st.obj o <;> simp only [hob] at hn <;> try exact hn.elim
  rename_i t cs
  cases hc : cs[j]? with
  | none => rw [hc] at hn; exact hn.elim
  | some x =>
    rw [hc] at hn
    cases x <;> simp only at hn
    have ho := obj_some hob (by simp)
    have hlt : o < st.objs.length := (List.getElem?_eq_some_iff.1 ho).1
    obtain ⟨hS1, _⟩ := h.new (ob := .row ty size α z enc []) (u := .slice none 0 0) (w' := w) (Keep.refl _ w) (fun b hb => by simp [foot, hblk] at hb) fun _ _ => ⟨henc, [], World.ownsRow_nil w 0 ty size, fun i j d hi => by simp at hi⟩
    have ho1 : (newObj st (.row ty size α z enc [])).objs[o]? = some (.cells t cs) := by
      simp only [newObj]
      rw [List.getElem?_append, if_pos hlt]
      exact ho
    obtain ⟨b, vals, e, hb, hr⟩ := hS1.good.rel o _ ho1
    have hfb : foot (.cells t cs) (setH hs st.objs.length (.slice none 0 0) o) b := by simp [foot, hblk, e]
    have hS2 := hS1.write ho1 (ob' := .cells t (cs.set j (.sl st.objs.length))) (b := b) hfb (fun _ => Iff.rfl) (Keep.refl _ w) fun hcc hdd => by
      refine ⟨b, vals, e, hb, by simpa using hr.1, fun i x v hx hv => ?_⟩
      rw [List.getElem?_set] at hx
      by_cases hi : j = i
      · subst hi
        rw [if_pos rfl] at hx
        split at hx
        · cases hx
          have hv0 : v = .slice none 0 0 := hr.2 j .nil v hc hv
          subst hv0
          exact ⟨by rw [setH_same], by rw [setH_same]; rfl⟩
        · cases hx
      · rw [if_neg hi] at hx
        exact hr.2 i x v hx hv
    have e2 : (newObj st (.row ty size α z enc [])).setObj o (.cells t (cs.set j (.sl st.objs.length))) = Vc.adoptC st o j ty size α z enc := by
      simp only [Vc.adoptC, hob, newObj, ASt.setObj]
      congr 1
      rw [List.set_append, if_pos hlt]
    rw [e2] at hS2
    exact ⟨_, hS2⟩
theorem AWP.adoptC {c : Code} {Q : Exit → ASt → Prop} {st : ASt} (o j : Nat) (ty : TypeId) (size : Nat) (α : Type) (z : α) (enc : α → List DV) (hn : isNilAt st o j) (henc : ∀ x, (enc x).length = size)
    (h : AWP P c Q (Vc.adoptC st o j ty size α z enc)) : AWP P c Q st := fun F hs a w hS =>
  let ⟨hs', hS'⟩ := hS.adoptC o j ty size α z enc hn henc
  h F hs' a w hS'
theorem LoopAt.adoptC {body : Code} {Q : Exit → ASt → Prop} {st : ASt} (o j : Nat) (ty : TypeId) (size : Nat) (α : Type) (z : α) (enc : α → List DV) (hn : isNilAt st o j) (henc : ∀ x, (enc x).length = size)
    (h : LoopAt P body Q (Vc.adoptC st o j ty size α z enc)) : LoopAt P body Q st := AWP.adoptC o j ty size α z enc hn henc h
end
end Go.Vc
