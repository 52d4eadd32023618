/- Own rows become data at a call; a nil slice taken as an empty one. -/
import Derived.Test.YtcjcfpbbhmhlbaaV26
set_option linter.unusedVariables false
namespace Go.Vc

section
variable {P : Program} {F : Fr} {st : ASt} {hs : Nat → Value} {a : Act} {w : World}
def frzF (st : ASt) (o : Nat) (x : AC) : AC := match st.obj o with
  | .row ty size α z enc xs => AC.frz o (.row ty size α z enc xs) x
  | .ext xo => match xo with
    | .rows ty ety size α z enc xss => AC.frz o (.ext (.rows ty ety size α z enc xss)) x
    | .map kt vt ks agg β z enc clock es => match agg with
      | false => AC.frz o (.ext (.map kt vt ks false β z enc clock es)) x
      | true => x
    | _ => x
  | _ => x
theorem map_same : ∀ (x : AV), x.map (fun c => c) = x
  | .c x => rfl
  | .agg cs => by simp [AV.map]
  | .tup vs => by simp [AV.map]
  | .on g x => rfl
theorem freeze_slots (st : ASt) (o : Nat) : (st.freeze o).slots = st.slots.map (AV.map (frzF st o)) := by
  have hid : st.slots = st.slots.map (AV.map (fun c => c)) := by
    rw [show AV.map (fun c => c) = id from funext map_same]; simp
  unfold ASt.freeze frzF
  cases hob : st.obj o <;> simp only <;> try exact hid
  · rfl
  · rename_i xo
    cases xo <;> simp only <;> first | exact hid | rfl | skip
    rename_i agg _ _ _ _ _
    cases agg <;> first | exact hid | rfl
theorem Sim.more (h : Sim F st hs a w) {args : List AV} {vals : Array Value} (hl : vals.size = args.length)
    (ha : ∀ (i : Nat) (x : AV) (v : Value), args[i]? = some x → vals[i]? = some v → RV w (avoid F st.objs hs) hs x v) : Sim F { st with slots := st.slots ++ args } hs { a with tmps := a.tmps ++ vals } w := by
  refine ⟨by simp [h.len, hl], fun i av v h1 h2 => ?_, h.good, h.defers, h.keep, h.ownb, h.fix, h.fx, h.dead, h.n0le⟩
  have h1' : (st.slots ++ args)[i]? = some av := h1
  have h2' : (a.tmps ++ vals)[i]? = some v := h2
  by_cases hi : i < st.slots.length
  · rw [List.getElem?_append_left hi] at h1'
    rw [Array.getElem?_append_left (by rw [h.len]; exact hi)] at h2'
    exact h.slots i av v h1' h2'
  · rw [List.getElem?_append_right (by omega)] at h1'
    rw [Array.getElem?_append_right (by rw [h.len]; omega), h.len] at h2'
    exact ha _ av v h1' h2'
theorem CallAt.freeze {f : FuncId} {args : List AV} {K : AV → ASt → Prop} (o : Nat) (h : CallAt P f (args.map (AV.map (frzF st o))) (st.freeze o) K) : CallAt P f args st K := by
  intro F hs a w vals hS hl hargs
  have hS1 := (hS.more hl hargs).freeze o
  refine h F hs a w vals (hS.freeze o) (by simpa using hl) fun i x v hx hv => ?_
  have hobjs : ({ st with slots := st.slots ++ args } : ASt).freeze o = { st.freeze o with slots := (st.freeze o).slots ++ args.map (AV.map (frzF st o)) } := by
    have e1 := freeze_slots { st with slots := st.slots ++ args } o
    have e2 := freeze_slots st o
    have e3 : frzF { st with slots := st.slots ++ args } o = frzF st o := rfl
    rw [e3] at e1
    have : ∀ (x y : ASt), x.slots = y.slots → x.objs = y.objs → x.n0 = y.n0 → x = y := fun ⟨_, _, _⟩ ⟨_, _, _⟩ h1 h2 h3 => by cases h1; cases h2; cases h3; rfl
    refine this _ _ (by rw [e1, e2]; simp) ?_ ?_
    · unfold ASt.freeze
      have : ({ st with slots := st.slots ++ args } : ASt).obj o = st.obj o := rfl
      rw [this]
      cases hob : st.obj o <;> simp only <;> try rfl
      rename_i xo
      cases xo <;> first | rfl | skip
      rename_i agg _ _ _ _ _
      cases agg <;> rfl
    · unfold ASt.freeze
      have : ({ st with slots := st.slots ++ args } : ASt).obj o = st.obj o := rfl
      rw [this]
      cases hob : st.obj o <;> simp only <;> try rfl
      rename_i xo
      cases xo <;> first | rfl | skip
      rename_i agg _ _ _ _ _
      cases agg <;> rfl
  rw [hobjs] at hS1
  have hlen : (st.freeze o).slots.length = st.slots.length := by rw [freeze_slots]; simp
  have hi : i < vals.size := (Array.getElem?_eq_some_iff.1 hv).1
  exact hS1.slots (st.slots.length + i) x v
    (by show ((st.freeze o).slots ++ _)[st.slots.length + i]? = _; rw [List.getElem?_append_right (by omega), hlen, Nat.add_sub_cancel_left]; exact hx)
    (by show (a.tmps ++ vals)[st.slots.length + i]? = _; rw [Array.getElem?_append_right (by rw [hS.len]; omega), hS.len, Nat.add_sub_cancel_left]; exact hv)
/-- one more value beside the slots, where a row becomes data -/
theorem Sim.freezeArg (hS : Sim F st hs a w) (o : Nat) {r : AV} {v : Value} (hr : RV w (avoid F st.objs hs) hs r v) : RV w (avoid F (st.freeze o).objs hs) hs (r.map (frzF st o)) v := by
  have hS1 := (hS.more (args := [r]) (vals := #[v]) rfl (fun i x u hx hu => by
    cases i with
    | zero => cases hx; cases hu; exact hr
    | succ i => cases hx)).freeze o
  have e1 := freeze_slots { st with slots := st.slots ++ [r] } o
  have e3 : frzF { st with slots := st.slots ++ [r] } o = frzF st o := rfl
  rw [e3] at e1
  have e2 : (({ st with slots := st.slots ++ [r] } : ASt).freeze o).objs = (st.freeze o).objs := by
    unfold ASt.freeze
    have : ({ st with slots := st.slots ++ [r] } : ASt).obj o = st.obj o := rfl
    rw [this]
    cases hob : st.obj o <;> simp only <;> try rfl
    rename_i xo
    cases xo <;> first | rfl | skip
    rename_i agg _ _ _ _ _
    cases agg <;> rfl
  have h1 := hS1.slots st.slots.length (r.map (frzF st o)) v
    (by rw [e1]; simp) (by show (a.tmps ++ #[v])[st.slots.length]? = _; rw [Array.getElem?_append_right (by rw [hS.len]; exact Nat.le_refl _), hS.len, Nat.sub_self]; rfl)
  rw [e2] at h1
  exact h1
/-- a call behind which an own row becomes data at once -/
theorem CallAt.thenFreeze {f : FuncId} {args : List AV} {K : AV → ASt → Prop} (o : Nat) (h : CallAt P f args st (fun r st' => K (r.map (frzF st' o)) (st'.freeze o))) : CallAt P f args st K := by
  intro F hs a w vals hS hl hargs
  refine (h F hs a w vals hS hl hargs).mono fun e w' hp => ?_
  cases e with
  | returned v =>
    obtain ⟨r, st', hs', hK, hS', hr⟩ := hp
    exact ⟨_, _, hs', hK, hS'.freeze o, hS'.freezeArg o hr⟩
  | panicked _ => exact hp
  | outgrown => exact hp
/-- a call with arguments of which more is known -/
theorem CallAt.args {f : FuncId} {args args' : List AV} {K : AV → ASt → Prop} (h : CallAt P f args' st K) (hl : args'.length = args.length)
    (ha : ∀ (i : Nat) (x y : AV), args'[i]? = some x → args[i]? = some y → ∀ (w : World) (O : Nat → Prop) (hs : Nat → Value) (v : Value), RV w O hs y v → RV w O hs x v) : CallAt P f args st K := by
  intro F hs a w vals hS hlv hargs
  refine h F hs a w vals hS (by rw [hlv, hl]) fun i x v hx hv => ?_
  have hlt : i < args.length := by rw [← hl]; exact (List.getElem?_eq_some_iff.1 hx).1
  exact ha i x _ hx (List.getElem?_eq_getElem hlt) _ _ _ _ (hargs i _ v (List.getElem?_eq_getElem hlt) hv)
/-- a nil slice among the arguments is an empty list -/
theorem CallAt.nilArg {f : FuncId} {args : List AV} {K : AV → ASt → Prop} (k size : Nat) (α : Type) (z : α) (enc : α → List DV) (hk : args[k]? = some (.c .nil)) (h : CallAt P f (args.set k (.c (.rd size α z enc []))) st K) : CallAt P f args st K := by
  refine h.args (by simp) fun i x y hx hy w O hs v hr => ?_
  rw [List.getElem?_set] at hx
  split at hx
  · rename_i e
    subst e
    rw [hk] at hy
    cases hy
    split at hx
    · cases hx
      exact nil_rd hr
    · cases hx
  · rw [hy] at hx
    cases hx
    exact hr
theorem Sim.fewer {slots args : List AV} {objs : List AObj} {n0 : Nat} {vals : Array Value} (h : Sim F ⟨slots ++ args, objs, n0⟩ hs { a with tmps := a.tmps ++ vals } w) (hl : a.tmps.size = slots.length) : Sim F ⟨slots, objs, n0⟩ hs a w := by
  refine ⟨hl, fun i av v h1 h2 => ?_, h.good, h.defers, h.keep, h.ownb, h.fix, h.fx, h.dead, h.n0le⟩
  have h1' : slots[i]? = some av := h1
  have hi : i < slots.length := (List.getElem?_eq_some_iff.1 h1').1
  exact h.slots i av v (by show (slots ++ args)[i]? = _; rw [List.getElem?_append_left hi]; exact h1') (by show (a.tmps ++ vals)[i]? = _; rw [Array.getElem?_append_left (by rw [hl]; exact hi)]; exact h2)
/-- an own row in the place of a nil slice in a local variable, at a call -/
theorem CallAt.adoptC {f : FuncId} {args : List AV} {K : AV → ASt → Prop} (o j : Nat) (ty : TypeId) (size : Nat) (α : Type) (z : α) (enc : α → List DV) (hn : isNilAt st o j) (henc : ∀ x, (enc x).length = size)
    (h : CallAt P f args (Vc.adoptC st o j ty size α z enc) K) : CallAt P f args st K := by
  intro F hs a w vals hS hl hargs
  obtain ⟨hs', hS1⟩ := (hS.more hl hargs).adoptC o j ty size α z enc hn henc
  have e : Vc.adoptC { st with slots := st.slots ++ args } o j ty size α z enc = ⟨(Vc.adoptC st o j ty size α z enc).slots ++ args, (Vc.adoptC st o j ty size α z enc).objs, (Vc.adoptC st o j ty size α z enc).n0⟩ := by
    unfold Vc.adoptC
    have : ({ st with slots := st.slots ++ args } : ASt).obj o = st.obj o := rfl
    rw [this]
    cases hob : st.obj o <;> rfl
  have es : (Vc.adoptC st o j ty size α z enc).slots = st.slots := by
    unfold Vc.adoptC
    cases hob : st.obj o <;> rfl
  rw [e] at hS1
  refine h F hs' a w vals (hS1.fewer (by rw [es]; exact hS.len)) hl fun i x v hx hv => ?_
  have hi : i < vals.size := (Array.getElem?_eq_some_iff.1 hv).1
  exact hS1.slots (st.slots.length + i) x v
    (by show ((Vc.adoptC st o j ty size α z enc).slots ++ args)[st.slots.length + i]? = _; rw [es, List.getElem?_append_right (by omega), Nat.add_sub_cancel_left]; exact hx)
    (by show (a.tmps ++ vals)[st.slots.length + i]? = _; rw [Array.getElem?_append_right (by rw [hS.len]; omega), hS.len, Nat.add_sub_cancel_left]; exact hv)
end
end Go.Vc
