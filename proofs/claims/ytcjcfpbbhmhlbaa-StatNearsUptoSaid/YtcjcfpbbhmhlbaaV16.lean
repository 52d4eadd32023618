/- Calls: some objects are lent, some own rows are shown, the others are barred. -/
import Derived.Test.YtcjcfpbbhmhlbaaV15
set_option linter.unusedVariables false
set_option linter.unusedSimpArgs false
namespace Go.Vc

/-! ### Kinds of elements -/
def eInt (k : IntKind) : Enc := ⟨Int, 0, fun n => [.int k n]⟩
def eBool : Enc := ⟨Bool, false, fun b => [.bool b]⟩
def eStr : Enc := ⟨ByteArray, ⟨#[]⟩, fun s => [.str s]⟩
def eList (size : Nat) (E : Enc) : Enc := ⟨List E.α, [], fun xs => [.list size E.α E.z E.enc xs]⟩
def ePair (A B : Enc) : Enc := ⟨A.α × B.α, (A.z, B.z), fun p => A.enc p.1 ++ B.enc p.2⟩

/-- own rows shown as data -/
def AC.view (objs : List AObj) (vs : List Nat) : AC → AC
  | .sl o => match vs.contains o with
    | true => match objs.getD o .gone with
      | .row _ size α z enc xs => .rd size α z enc xs
      | _ => .junk
    | false => .sl o
  | .sub o s lo n => match vs.contains o with
    | true => match objs.getD o .gone with
      | .row _ size α z enc xs => bif s == size then .rd size α z enc ((xs.drop lo).take n) else .junk
      | _ => .junk
    | false => .sub o s lo n
  | .xr o r => match vs.contains o with
    | true => match objs.getD o .gone with
      | .ext xo => match xo with
        | .rows _ _ size α z enc xss => match r with
          | .whole => .rd 1 (List α) [] (encL size α z enc) xss
          | .inn i => .rd size α z enc (xss.getD i [])
          | _ => .junk
        | .map kt vt ks agg β z enc clock es => match agg with
          | false => match r with
            | .self => .md kt vt ks β z enc clock es
            | _ => .junk
          | true => .junk
        | _ => .junk
      | _ => .junk
    | false => .xr o r
  | x => x
def callArg (objs : List AObj) (ids vs : List Nat) (x : AC) : AC := (x.view objs vs).ren fun p => findIx p ids 0

def DV.flat : DV → Prop
  | .list .. => False
  | .map .. => False
  | _ => True
def AC.flat : AC → Prop
  | .rd .. => False
  | .md .. => False
  | .re _ => False
  | _ => True
def AV.flat : AV → Prop
  | .c x => x.flat
  | .agg cs => ∀ x ∈ cs, x.flat
  | .tup vs => ∀ p ∈ vs, ∀ x ∈ p.2, x.flat
  | .on _ x => x.flat
def XObj.flat : XObj → Prop
  | .rows _ _ _ _ _ enc xss => ∀ xs ∈ xss, ∀ x ∈ xs, ∀ d ∈ enc x, d.flat
  | .map _ _ _ _ _ _ enc _ es => ∀ e ∈ es, ∀ d ∈ enc e.2.2, d.flat
  | .iter .. => False
def AObj.flat : AObj → Prop
  | .gone => True
  | .ext x => x.flat
  | .cells _ cs => ∀ x ∈ cs, x.flat
  | .row _ _ _ z enc xs => ∀ x ∈ xs, ∀ d ∈ enc x, d.flat

def backIx (ids : List Nat) (n k : Nat) : Option Nat := match ids[k]? with | some o => some o | none => some (n + (k - ids.length))
/-- what is lent comes back; what is new is added -/
def giveBack (f : AC → AC) : List Nat → List AObj → List AObj → List AObj
  | [], os, objs => objs ++ os.map (AObj.map f)
  | i :: ids, [], objs => objs
  | i :: ids, o :: os, objs => giveBack f ids os (objs.set i (o.map f))
def afterCall (st : ASt) (ids : List Nat) (os : List AObj) : ASt := { st with objs := giveBack (AC.ren (backIx ids st.objs.length)) ids os st.objs }

section
variable {P : Program} {T : Tab}

theorem RC.view {w : World} {O O' : Nat → Prop} {hs : Nat → Value} {objs : List AObj} {vs : List Nat} (hg : ∀ (o : Nat) (ob : AObj), objs[o]? = some ob → RO w O hs ob (hs o))
    (hm : ∀ b, b < w.heap.size → ¬ O b → ¬ O' b) (hv : ∀ o ∈ vs, ∀ (ob : AObj) (b : Nat), objs[o]? = some ob → foot ob (hs o) b → ¬ O' b)
    {x : AC} {v : Value} (h : RC w O hs x v) : RC w O' hs (x.view objs vs) v := by
  have hmono : ∀ {x : AC} {v : Value}, RC w O hs x v → RC w O' hs x v := fun hr => RC.mono (Nat.le_refl _) (fun b hb hn => ⟨rfl, hm b hb hn⟩) hr
  cases x <;> simp only [AC.view] <;> try exact hmono h
  case sl o =>
    cases hc : vs.contains o with
    | false => exact hmono h
    | true =>
      have ho : o ∈ vs := by simpa using hc
      cases hob : objs[o]? with
      | none => simp [List.getD, hob, RC]
      | some ob =>
        simp only [List.getD, hob, Option.getD_some]
        cases ob with
        | gone => exact trivial
        | ext => exact trivial
        | cells => exact trivial
        | row ty size α z enc xs =>
          have hr := hg o _ hob
          obtain ⟨rfl, hsl⟩ := h
          have key := RC_frz (O := O) (O' := O') hr (fun b hb hn => ⟨rfl, hm b hb hn⟩) (fun b hb => hv o ho _ b hob hb) (x := .sl o) (v := hs o) ⟨rfl, hsl⟩
          simpa [AC.frz] using key
  case sub o s lo n =>
    cases hc : vs.contains o with
    | false => exact hmono h
    | true =>
      have ho : o ∈ vs := by simpa using hc
      cases hob : objs[o]? with
      | none => simp [List.getD, hob, RC]
      | some ob =>
        simp only [List.getD, hob, Option.getD_some]
        cases ob with
        | gone => exact trivial
        | ext => exact trivial
        | cells => exact trivial
        | row ty size α z enc xs =>
          have hr := hg o _ hob
          have key := RC_frz (O := O) (O' := O') hr (fun b hb hn => ⟨rfl, hm b hb hn⟩) (fun b hb => hv o ho _ b hob hb) (x := .sub o s lo n) (v := v) h
          simpa [AC.frz] using key
  case xr o r =>
    cases hc : vs.contains o with
    | false => exact hmono h
    | true =>
      have ho : o ∈ vs := by simpa using hc
      cases hob : objs[o]? with
      | none => simp [List.getD, hob, RC]
      | some ob =>
        simp only [List.getD, hob, Option.getD_some]
        cases ob with
        | gone => exact trivial
        | row => exact trivial
        | cells => exact trivial
        | ext xo =>
          cases xo with
          | map kt vt ks agg β z enc clock es =>
            cases agg with
            | true => exact trivial
            | false =>
              have key := RC_frzM (O := O) (O' := O') (hg o _ hob) (fun b hb hn => ⟨rfl, hm b hb hn⟩) (fun b hb => hv o ho _ b hob hb) (x := .xr o r) (v := v) h
              cases r <;> simpa [AC.frz] using key
          | iter => exact trivial
          | rows ty ety size α z enc xss =>
            obtain ⟨u, l, e, h1, h2, h3, h4⟩ := hg o _ hob
            have hR : Rows w O ty ety size α z enc xss u l := ⟨h1, by have := h1.1; omega, h2, h3, h4⟩
            have key := RC_frzX (O := O) (O' := O') e hR (fun b hb hn => ⟨rfl, hm b hb hn⟩) (fun b hb => hv o ho _ b hob hb) (x := .xr o r) (v := v) h
            cases r <;> simpa [AC.frz] using key

/-- what is live keeps its handle -/
theorem RC.live {w : World} {O : Nat → Prop} {hs hs' : Nat → Value} (hne : ∀ o, hs o ≠ .nilFunc → hs' o = hs o) {x : AC} {v : Value} (h : RC w O hs x v) : RC w O hs' x v := by
  cases x <;> simp only [RC] at h ⊢ <;> try exact h
  case ptr o j => obtain ⟨b, e1, e2⟩ := h; exact ⟨b, by rw [hne o (by rw [e1]; simp), e1], e2⟩
  case sl o => obtain ⟨e1, e2⟩ := h; rw [hne o (by intro e; rw [e] at e2; cases e2)]; exact ⟨e1, e2⟩
  case sub o size lo m =>
    rcases h with ⟨g0, A, cp, g1, g2, g3, g4, g5⟩ | ⟨h0, b, m', cap, c, e1, r⟩
    · have e2 := hne o (by intro e; rw [e] at g4; cases g4)
      exact .inl ⟨g0, A, cp, g1, g2, g3, by rw [e2]; exact g4, by rw [e2]; exact g5⟩
    · exact .inr ⟨h0, b, m', cap, c, by rw [hne o (by rw [e1]; simp), e1], r⟩
  case el o size i j => obtain ⟨b, m, cap, e1, e2⟩ := h; exact ⟨b, m, cap, by rw [hne o (by rw [e1]; simp), e1], e2⟩
  case xr o r => rw [hne o (XRef.rel_ne h)]; exact h
  case fn f caps =>
    obtain ⟨arr, e, hl, hc⟩ := h
    refine ⟨arr, e, hl, fun i p hp => ?_⟩
    obtain ⟨b, e1, e2⟩ := hc i p hp
    exact ⟨b, by rw [hne p.1 (by rw [e1]; simp), e1], e2⟩
theorem AC.map_id' : (fun x : AC => x) = id := rfl
theorem AV.map_id (x : AV) : x.map (fun x => x) = x := by
  cases x with
  | c x => rfl
  | agg cs => simp [AV.map]
  | tup vs => simp [AV.map]
  | on g x => rfl
theorem RV.imp {w w' : World} {O O' : Nat → Prop} {hs hs' : Nat → Value} (hf : ∀ {x v}, RC w O hs x v → RC w' O' hs' x v) {x : AV} {v : Value} (h : RV w O hs x v) : RV w' O' hs' x v := by
  have := RV.map (f := fun x => x) hf h
  rwa [AV.map_id] at this
theorem RCs.imp {w w' : World} {O O' : Nat → Prop} {hs hs' : Nat → Value} (hf : ∀ {x v}, RC w O hs x v → RC w' O' hs' x v) {cs : List AC} {vs : List Value} (h : RCs w O hs cs vs) : RCs w' O' hs' cs vs :=
  ⟨h.1, fun i x v hx hv => hf (h.2 i x v hx hv)⟩

/-! ### Flat values hold in every world -/
theorem RD.flat {w w' : World} {O O' : Nat → Prop} {d : DV} {v : Value} (hd : d.flat) (h : RD w O d v) : RD w' O' d v := by
  cases h with
  | int k n => exact .int k n
  | bool b => exact .bool b
  | str s => exact .str s
  | raw v h => exact .raw v h
  | nil => exact .nil
  | empty => exact hd.elim
  | list => exact hd.elim
  | map => exact hd.elim
theorem RC.flat {w w' : World} {O O' : Nat → Prop} {hs : Nat → Value} {x : AC} {v : Value} (hx : x.flat) (h : RC w O hs x v) : RC w' O' hs x v := by
  cases x <;> first | exact h | exact hx.elim
theorem RCs.flat {w w' : World} {O O' : Nat → Prop} {hs : Nat → Value} {cs : List AC} {vs : List Value} (hx : ∀ x ∈ cs, x.flat) (h : RCs w O hs cs vs) : RCs w' O' hs cs vs :=
  ⟨h.1, fun i x v hi hv => (h.2 i x v hi hv).flat (hx x (List.mem_of_getElem? hi))⟩
theorem RV.flat {w w' : World} {O O' : Nat → Prop} {hs : Nat → Value} {x : AV} {v : Value} (hx : x.flat) (h : RV w O hs x v) : RV w' O' hs x v := by
  cases x with
  | c x => exact RC.flat hx h
  | agg cs => obtain ⟨arr, e, hr⟩ := h; exact ⟨arr, e, hr.flat hx⟩
  | on g x => exact ⟨fun hg => (h.1 hg).flat hx, h.2⟩
  | tup vs =>
    obtain ⟨arr, e, hl, hr⟩ := h
    refine ⟨arr, e, hl, fun i p u hp hu => ?_⟩
    have hx' := hx p (List.mem_of_getElem? hp)
    have := hr i p u hp hu
    obtain ⟨g, cs⟩ := p
    cases g
    · intro x hx''
      simp only at hx'
      exact (this x hx'').flat (hx' x (by rw [hx'']; simp))
    · obtain ⟨arr', e', hr'⟩ := this
      exact ⟨arr', e', hr'.flat hx'⟩
theorem VRel.flat {w w' : World} {O O' : Nat → Prop} {agg : Bool} {ds : List DV} {v : Value} (hd : ∀ d ∈ ds, d.flat) (h : VRel w O agg ds v) : VRel w' O' agg ds v := by
  cases agg with
  | true => obtain ⟨arr, e, h1, h2⟩ := h; exact ⟨arr, e, h1, fun j d u hd' hu => (h2 j d u hd' hu).flat (hd d (List.mem_of_getElem? hd'))⟩
  | false => obtain ⟨d, e, h1⟩ := h; exact ⟨d, e, h1.flat (hd d (by rw [e]; simp))⟩
theorem RO.flat {w : World} {O O' : Nat → Prop} {hs : Nat → Value} {ob : AObj} {h : Value} (hx : ob.flat) (hr : RO w O hs ob h) : RO w O' hs ob h := by
  cases ob with
  | ext x =>
    cases x with
    | iter => exact hx.elim
    | map kt vt ks agg β z enc clock es =>
      obtain ⟨b, arr, e, h1, h2, h3, h4, h5⟩ := hr
      exact ⟨b, arr, e, h1, h2, h3, h4, fun i x e hi he => by
        obtain ⟨d1, d2, d3⟩ := h5 i x e hi he
        exact ⟨d1, d2, d3.flat (hx x (List.mem_of_getElem? hi))⟩⟩
    | rows ty ety size α z enc xss =>
      obtain ⟨u, l, e, h1, h2, h3, h4⟩ := hr
      refine ⟨u, l, e, h1, h2, fun i v xs hi hxs => ?_, h4⟩
      obtain ⟨g1, vs, g2, g3⟩ := h3 i v xs hi hxs
      refine ⟨g1, vs, g2, fun k j d hk hj => ?_⟩
      obtain ⟨cv, e1, e2⟩ := g3 k j d hk hj
      refine ⟨cv, e1, e2.flat (hx xs (List.mem_of_getElem? hxs) (xs.getD k z) ?_ d (List.mem_of_getElem? hj))⟩
      rw [List.getD_eq_getElem?_getD, List.getElem?_eq_getElem hk]
      exact List.getElem_mem hk
  | gone => exact trivial
  | cells ty cs => obtain ⟨b, vals, e, hb, hc⟩ := hr; exact ⟨b, vals, e, hb, hc.flat hx⟩
  | row ty size α z enc xs =>
    obtain ⟨h1, vs, h2, h3⟩ := hr
    refine ⟨h1, vs, h2, fun i j d hi hj => ?_⟩
    obtain ⟨cv, e1, e2⟩ := h3 i j d hi hj
    refine ⟨cv, e1, e2.flat (hx (xs.getD i z) ?_ d (List.mem_of_getElem? hj))⟩
    rw [List.getD_eq_getElem?_getD, List.getElem?_eq_getElem hi]
    exact List.getElem_mem hi

theorem giveBack_len {f : AC → AC} : ∀ (ids : List Nat) (os objs : List AObj), ids.length ≤ os.length → (giveBack f ids os objs).length = objs.length + (os.length - ids.length)
  | [], os, objs, _ => by simp [giveBack]
  | i :: ids, [], objs, h => by simp at h
  | i :: ids, o :: os, objs, h => by
    simp only [giveBack]
    rw [giveBack_len ids os _ (by simpa using h)]
    simp
theorem giveBack_get {f : AC → AC} : ∀ (ids : List Nat) (os objs : List AObj), ids.length ≤ os.length → ∀ (o : Nat) (ob : AObj), (giveBack f ids os objs)[o]? = some ob →
    (∃ (k : Nat) (oo : AObj), ids[k]? = some o ∧ os[k]? = some oo ∧ ob = oo.map f) ∨ (o ∉ ids ∧ o < objs.length ∧ objs[o]? = some ob) ∨ (objs.length ≤ o ∧ ∃ oo : AObj, os[ids.length + (o - objs.length)]? = some oo ∧ ob = oo.map f)
  | [], os, objs, _, o, ob, h => by
    simp only [giveBack] at h
    rw [List.getElem?_append] at h
    split at h
    · rename_i ho; exact .inr (.inl ⟨by simp, ho, h⟩)
    · rename_i ho
      rw [List.getElem?_map] at h
      cases hx : os[o - objs.length]? with
      | none => rw [hx] at h; cases h
      | some oo => rw [hx] at h; cases h; exact .inr (.inr ⟨by omega, oo, by simpa using hx, rfl⟩)
  | i :: ids, [], objs, h, _, _, _ => by simp at h
  | i :: ids, o' :: os, objs, h, o, ob, ho => by
    simp only [giveBack] at ho
    rcases giveBack_get ids os _ (by simpa using h) o ob ho with ⟨k, oo, h1, h2, h3⟩ | ⟨h1, h2, h3⟩ | ⟨h1, oo, h2, h3⟩
    · exact .inl ⟨k + 1, oo, by simpa using h1, by simpa using h2, h3⟩
    · rw [List.getElem?_set] at h3
      split at h3
      · rename_i hi
        subst hi
        split at h3
        · cases h3; exact .inl ⟨0, o', rfl, rfl, rfl⟩
        · cases h3
      · rename_i hi
        exact .inr (.inl ⟨by simp; exact ⟨fun e => hi e.symm, h1⟩, by simpa using h2, h3⟩)
    · simp only [List.length_set] at h1 h2
      exact .inr (.inr ⟨h1, oo, by rw [List.length_cons, show ids.length + 1 + (o - objs.length) = (ids.length + (o - objs.length)) + 1 by omega, List.getElem?_cons_succ]; exact h2, h3⟩)

theorem findIx_some {o : Nat} : ∀ {l : List Nat} {k : Nat}, o ∈ l → ∃ p, findIx o l k = some p
  | [], k, h => by cases h
  | q :: l, k, h => by
    simp only [findIx]
    cases hq : (q == o) with
    | true => exact ⟨k, rfl⟩
    | false =>
      have hq' : q ≠ o := by simpa using hq
      rcases List.mem_cons.1 h with h | h
      · exact absurd h.symm hq'
      · exact findIx_some h
end
section
variable {P : Program} {T : Tab}

/-- a call -/
theorem CallAt.call {f : FuncId} {args : List AV} {st : ASt} {K : AV → ASt → Prop} (ids vs : List Nat) {args' : List AV} {objs' : List AObj} {K' : AV → List AObj → Prop}
    (h : ACall P f args' objs' K') (hnd : ids.Nodup) (hlt : ∀ i ∈ ids, i < st.objs.length) (hdj : ∀ o ∈ vs, o ∉ ids)
    (ha : args' = args.map (AV.map (callArg st.objs ids vs))) (ho : objs' = keepObjs st.objs ids)
    (hfl : vs = [] ∨ ∀ r os, K' r os → r.flat ∧ ∀ ob ∈ os, ob.flat)
    (hK : ∀ r os, K' r os → K (r.map (AC.ren (backIx ids st.objs.length))) (afterCall st ids os)) : CallAt P f args st K := by
  subst ha ho
  intro F hs a w vals hS hl hargs
  let X : Nat → Prop := fun b => F.X b ∨ ∃ (o : Nat) (ob : AObj), st.objs[o]? = some ob ∧ o ∉ ids ∧ o ∉ vs ∧ foot ob (hs o) b
  have hown1 : ∀ b, own (keepObjs st.objs ids) (keepH hs ids) b → ∃ (o : Nat) (ob : AObj), o ∈ ids ∧ st.objs[o]? = some ob ∧ foot ob (hs o) b := fun b hb => by
    obtain ⟨k, o, ob, h1, h2, h3⟩ := own_keep hb
    exact ⟨o, ob, List.mem_of_getElem? h1, h2, h3⟩
  have hlive : ∀ b, own st.objs hs b → ¬ F.X b := fun b hb hX => by
    obtain ⟨h1, h2⟩ := hS.fx b hX
    rcases hS.ownb b hb with h3 | h3
    · exact h2 h3
    · omega
  have hO1 : ∀ b, (own (keepObjs st.objs ids) (keepH hs ids) b ∨ X b) → avoid F st.objs hs b := fun b hb => by
    rcases hb with hb | hb | ⟨o, ob, h1, _, _, h2⟩
    · obtain ⟨o, ob, _, h1, h2⟩ := hown1 b hb; exact .inl ⟨o, ob, h1, h2⟩
    · exact .inr hb
    · exact .inl ⟨o, ob, h1, h2⟩
  have hX : ∀ b, X b → b < w.heap.size ∧ ¬ own (keepObjs st.objs ids) (keepH hs ids) b := fun b hb => by
    rcases hb with hb | ⟨o, ob, h1, h2, _, h3⟩
    · refine ⟨Nat.lt_of_lt_of_le (hS.fx b hb).1 hS.keep.size, fun ho => ?_⟩
      obtain ⟨o, ob, _, h1, h2⟩ := hown1 b ho
      exact hlive b ⟨o, ob, h1, h2⟩ hb
    · refine ⟨(hS.good.rel o ob h1).foot_lt h3, fun ho => ?_⟩
      obtain ⟨o', ob', h4, h5, h6⟩ := hown1 b ho
      have := hS.good.disj o o' ob ob' b h1 h5 h3 h6
      subst this
      exact h2 h4
  have hD1 : ∀ {d v}, RD w (avoid F st.objs hs) d v → RD w (fun b => own (keepObjs st.objs ids) (keepH hs ids) b ∨ X b) d v := fun hr =>
    RD.mono (Nat.le_refl _) (fun b _ hn => ⟨rfl, fun hb => hn (hO1 b hb)⟩) hr
  have hren : ∀ o p, findIx o ids 0 = some p → keepH hs ids p = hs o := fun o p hp => keepH_some (by simpa using (findIx_spec hp).2)
  have hC1 : ∀ {x v}, RC w (avoid F st.objs hs) hs x v → RC w (fun b => own (keepObjs st.objs ids) (keepH hs ids) b ∨ X b) (keepH hs ids) (x.ren fun p => findIx p ids 0) v := fun hr =>
    RC.ren hren hD1 (fun b _ hn hb => hn (hO1 b hb)) hr
  have hview : ∀ o ∈ vs, ∀ (ob : AObj) (b : Nat), st.objs[o]? = some ob → foot ob (hs o) b → ¬ (own (keepObjs st.objs ids) (keepH hs ids) b ∨ X b) := fun o hov ob b h1 h2 hb => by
    have key : ∀ (o' : Nat) (ob' : AObj), st.objs[o']? = some ob' → foot ob' (hs o') b → o = o' := fun o' ob' h3 h4 => hS.good.disj o o' ob ob' b h1 h3 h2 h4
    rcases hb with hb | hb | ⟨o', ob', h3, _, h5, h6⟩
    · obtain ⟨o', ob', h3, h4, h5⟩ := hown1 b hb
      exact hdj o hov (key o' ob' h4 h5 ▸ h3)
    · exact hlive b ⟨o, ob, h1, h2⟩ hb
    · exact h5 (key o' ob' h3 h6 ▸ hov)
  have hG1 : Good w (fun b => own (keepObjs st.objs ids) (keepH hs ids) b ∨ X b) (keepObjs st.objs ids) (keepH hs ids) := by
    refine ⟨fun k ob hk => ?_, fun k k' ob ob' b hk hk' h1 h2 => ?_⟩
    · obtain ⟨o, h1, rfl⟩ := keepObjs_get hk
      rw [keepH_some h1]
      cases ho : st.objs[o]? with
      | none => simp [List.getD, ho]; exact trivial
      | some ob => simpa [List.getD, ho] using (hS.good.rel o ob ho).ren hC1 hD1
    · obtain ⟨o, e1, rfl⟩ := keepObjs_get hk
      obtain ⟨o', e2, rfl⟩ := keepObjs_get hk'
      rw [foot_map, keepH_some e1] at h1
      rw [foot_map, keepH_some e2] at h2
      cases ho : st.objs[o]? with
      | none => simp [List.getD, ho, foot] at h1
      | some ob =>
        cases ho' : st.objs[o']? with
        | none => simp [List.getD, ho', foot] at h2
        | some ob' =>
          simp only [List.getD, ho, ho', Option.getD_some] at h1 h2
          have := hS.good.disj o o' ob ob' b ho ho' h1 h2
          subst this
          exact getElem?_inj_nodup hnd e1 e2
  have hm : (keepObjs st.objs ids).length = ids.length := by simp [keepObjs]
  have hargs1 : ∀ (i : Nat) (x : AV) (v : Value), (args.map (AV.map (callArg st.objs ids vs)))[i]? = some x → vals[i]? = some v → RV w (fun b => own (keepObjs st.objs ids) (keepH hs ids) b ∨ X b) (keepH hs ids) x v := fun i x v hx hv => by
    rw [List.getElem?_map] at hx
    cases hi : args[i]? with
    | none => rw [hi] at hx; cases hx
    | some y =>
      rw [hi] at hx
      cases hx
      refine RV.map (fun {x v} hr => ?_) (hargs i y v hi hv)
      have h1 := RC.view (vs := vs) (objs := st.objs) (fun o ob ho => hS.good.rel o ob ho) (O' := fun b => own (keepObjs st.objs ids) (keepH hs ids) b ∨ X b) (fun b _ hn hb => hn (hO1 b hb)) hview hr
      exact RC.ren hren (fun h => h) (fun b _ h => h) h1
  have hdead1 : ∀ o, (keepObjs st.objs ids).length ≤ o → keepH hs ids o = .nilFunc := fun o ho => by
    have : ids[o]? = none := List.getElem?_eq_none (by omega)
    simp [keepH, this]
  refine (h X (keepH hs ids) w vals hX hG1 hdead1 (by simp [hl]) hargs1).mono fun e w' hR => ?_
  cases e with
  | outgrown => exact hR.elim
  | panicked c => exact hR.elim
  | returned v =>
  obtain ⟨r, os, hs2, hK', hrv, hG2, hk, hown2, hh2, hd2, hlen⟩ := hR
  rw [hm] at hlen hh2
  let N := st.objs.length
  let hs3 : Nat → Value := fun o => if o < N then hs o else hs2 (ids.length + (o - N))
  have h3old : ∀ o, o < N → hs3 o = hs o := fun o h => by simp [hs3, h]
  have h3new : ∀ o, N ≤ o → hs3 o = hs2 (ids.length + (o - N)) := fun o h => by simp only [hs3]; rw [if_neg (by omega)]
  have h3ids : ∀ k o, ids[k]? = some o → hs3 o = hs2 k := fun k o hk => by
    rw [h3old o (hlt o (List.mem_of_getElem? hk)), hh2 k (List.getElem?_eq_some_iff.1 hk).1, keepH_some hk]
  have hback : ∀ k p, backIx ids N k = some p → hs3 p = hs2 k := fun k p hp => by
    simp only [backIx] at hp
    cases hk : ids[k]? with
    | some o =>
      rw [hk] at hp
      have e : o = p := by simpa using hp
      rw [← e]; exact h3ids k o hk
    | none =>
      rw [hk] at hp
      have e : N + (k - ids.length) = p := by simpa using hp
      have := List.getElem?_eq_none_iff.1 hk
      rw [← e, h3new _ (by omega)]
      congr 1
      omega
  have look := giveBack_get (f := AC.ren (backIx ids N)) ids os st.objs hlen
  -- who owns what
  have hos : ∀ b, own os hs2 b → (∃ (o : Nat) (ob : AObj), o ∈ ids ∧ st.objs[o]? = some ob ∧ foot ob (hs o) b) ∨ w.heap.size ≤ b := fun b hb => (hown2 b hb).imp (hown1 b) id
  have own3 : ∀ b, own (afterCall st ids os).objs hs3 b → own os hs2 b ∨ ∃ (o : Nat) (ob : AObj), o ∉ ids ∧ st.objs[o]? = some ob ∧ foot ob (hs o) b := fun b ⟨o, ob, h1, h2⟩ => by
    rcases look o ob h1 with ⟨k, oo, e1, e2, rfl⟩ | ⟨e1, e2, e3⟩ | ⟨e1, oo, e2, rfl⟩
    · rw [foot_map, h3ids k o e1] at h2; exact .inl ⟨k, oo, e2, h2⟩
    · rw [h3old o e2] at h2; exact .inr ⟨o, ob, e1, e3, h2⟩
    · rw [foot_map, h3new o e1] at h2; exact .inl ⟨_, oo, e2, h2⟩
  have own3' : ∀ b, own (afterCall st ids os).objs hs3 b → own st.objs hs b ∨ w.heap.size ≤ b := fun b hb => by
    rcases own3 b hb with h1 | ⟨o, ob, _, h1, h2⟩
    · rcases hos b h1 with ⟨o, ob, _, h2, h3⟩ | h2
      · exact .inl ⟨o, ob, h2, h3⟩
      · exact .inr h2
    · exact .inl ⟨o, ob, h1, h2⟩
  have hmo : ∀ b, b < w.heap.size → ¬ avoid F st.objs hs b → w'.heap[b]? = w.heap[b]? ∧ ¬ avoid F (afterCall st ids os).objs hs3 b := fun b hb hn => by
    refine ⟨hk.block b hb fun ho => ?_, fun hA => ?_⟩
    · obtain ⟨o, ob, _, h1, h2⟩ := hown1 b ho
      exact hn (.inl ⟨o, ob, h1, h2⟩)
    · rcases hA with hA | hA
      · rcases own3' b hA with h1 | h1
        · exact hn (.inl h1)
        · omega
      · exact hn (.inr hA)
  have hlv : ∀ o, hs o ≠ .nilFunc → hs3 o = hs o := fun o ho => by
    by_cases h1 : o < N
    · exact h3old o h1
    · exact absurd (hS.dead o (by omega)) ho
  have hCold : ∀ {x v}, RC w (avoid F st.objs hs) hs x v → RC w' (avoid F (afterCall st ids os).objs hs3) hs3 x v := fun hr => (RC.mono hk.size hmo hr).live hlv
  -- what the call gave
  let O2 : Nat → Prop := fun b => (own os hs2 b ∨ X b) ∨ ∃ (o : Nat) (ob : AObj), o ∈ vs ∧ st.objs[o]? = some ob ∧ foot ob (hs o) b
  have hO2 : vs = [] → ∀ b, O2 b → own os hs2 b ∨ X b := fun hv b hb => hb.elim id fun ⟨o, ob, h1, _⟩ => by rw [hv] at h1; cases h1
  have hO3 : ∀ b, avoid F (afterCall st ids os).objs hs3 b → O2 b := fun b hb => by
    rcases hb with hb | hb
    · rcases own3 b hb with h1 | ⟨o, ob, h1, h2, h3⟩
      · exact .inl (.inl h1)
      · by_cases hv : o ∈ vs
        · exact .inr ⟨o, ob, hv, h2, h3⟩
        · exact .inl (.inr (.inr ⟨o, ob, h2, h1, hv, h3⟩))
    · exact .inl (.inr (.inl hb))
  have hrv2 : RV w' O2 hs2 r v := by
    rcases hfl with hv | hv
    · exact hrv.mono (Nat.le_refl _) fun b _ hn => ⟨rfl, fun hb => hn (hO2 hv b hb)⟩
    · exact hrv.flat (hv r os hK').1
  have hrel2 : ∀ (k : Nat) (oo : AObj), os[k]? = some oo → RO w' O2 hs2 oo (hs2 k) := fun k oo hk => by
    rcases hfl with hv | hv
    · exact RO.mono (Nat.le_refl _) (fun b _ hn => ⟨rfl, fun hb => hn (hO2 hv b hb)⟩) (hG2.rel k oo hk) fun _ _ => rfl
    · exact (hG2.rel k oo hk).flat ((hv r os hK').2 oo (List.mem_of_getElem? hk))
  have hDnew : ∀ {d v}, RD w' O2 d v → RD w' (avoid F (afterCall st ids os).objs hs3) d v := fun hr => RD.mono (Nat.le_refl _) (fun b _ hn => ⟨rfl, fun hb => hn (hO3 b hb)⟩) hr
  have hCnew : ∀ {x v}, RC w' O2 hs2 x v → RC w' (avoid F (afterCall st ids os).objs hs3) hs3 (x.ren (backIx ids N)) v := fun hr =>
    RC.ren hback hDnew (fun b _ hn hb => hn (hO3 b hb)) hr
  refine ⟨_, afterCall st ids os, hs3, hK r os hK', ⟨hS.len, fun i av v h1 h2 => RV.imp hCold (hS.slots i av v h1 h2), ⟨fun o ob h1 => ?_, fun o o' ob ob' b h1 h2 h3 h4 => ?_⟩, hS.defers, ?_, fun b hb => ?_, fun o ho => ?_, hS.fx, fun o ho => ?_, ?_⟩, hrv2.map hCnew⟩
  · rcases look o ob h1 with ⟨k, oo, e1, e2, rfl⟩ | ⟨e1, e2, e3⟩ | ⟨e1, oo, e2, rfl⟩
    · rw [h3ids k o e1]; exact (hrel2 k oo e2).ren hCnew hDnew
    · rw [h3old o e2]
      have hr := hS.good.rel o ob e3
      have hft : ∀ b, foot ob (hs o) b → w'.heap[b]? = w.heap[b]? := fun b hb => hk.block b (hr.foot_lt hb) fun hl => by
        obtain ⟨o', ob', h4, h5, h6⟩ := hown1 b hl
        have := hS.good.disj o o' ob ob' b e3 h5 hb h6
        subst this
        exact e1 h4
      cases ob with
      | ext x => exact XObj.imp_id hCold (fun hr => RD.mono hk.size hmo hr) hft hr
      | gone => exact trivial
      | cells ty cs =>
        obtain ⟨b, vals, e, hb, hc⟩ := hr
        exact ⟨b, vals, e, by rw [hft b (by simp [foot, hblk, e])]; exact hb, hc.imp hCold⟩
      | row ty size α z enc xs => exact RO.mono (hs := hs) hk.size hmo hr hft
    · rw [h3new o e1]; exact (hrel2 _ oo e2).ren hCnew hDnew
  · have mixed : ∀ (o p : Nat) (ob oo : AObj) (k : Nat), o ∉ ids → st.objs[o]? = some ob → os[k]? = some oo → foot ob (hs o) b → foot oo (hs2 k) b → False := fun o p ob oo k e1 e2 e3 f1 f2 => by
      rcases hos b ⟨k, oo, e3, f2⟩ with ⟨o', ob', h4, h5, h6⟩ | h4
      · have := hS.good.disj o o' ob ob' b e2 h5 f1 h6
        subst this
        exact e1 h4
      · have := (hS.good.rel o ob e2).foot_lt f1
        omega
    rcases look o ob h1 with ⟨k, oo, e1, e2, rfl⟩ | ⟨e1, e2, e3⟩ | ⟨e1, oo, e2, rfl⟩ <;> rcases look o' ob' h2 with ⟨k', oo', g1, g2, rfl⟩ | ⟨g1, g2, g3⟩ | ⟨g1, oo', g2, rfl⟩
    · rw [foot_map, h3ids k o e1] at h3; rw [foot_map, h3ids k' o' g1] at h4
      have := hG2.disj k k' oo oo' b e2 g2 h3 h4
      subst this
      rw [e1] at g1
      cases g1
      rfl
    · rw [foot_map, h3ids k o e1] at h3; rw [h3old o' g2] at h4
      exact (mixed o' o ob' oo k g1 g3 e2 h4 h3).elim
    · rw [foot_map, h3ids k o e1] at h3; rw [foot_map, h3new o' g1] at h4
      have := hG2.disj _ _ oo oo' b e2 g2 h3 h4
      have := (List.getElem?_eq_some_iff.1 e1).1
      omega
    · rw [h3old o e2] at h3; rw [foot_map, h3ids k' o' g1] at h4
      exact (mixed o o' ob oo' k' e1 e3 g2 h3 h4).elim
    · rw [h3old o e2] at h3; rw [h3old o' g2] at h4
      exact hS.good.disj o o' ob ob' b e3 g3 h3 h4
    · rw [h3old o e2] at h3; rw [foot_map, h3new o' g1] at h4
      exact (mixed o o' ob oo' _ e1 e3 g2 h3 h4).elim
    · rw [foot_map, h3new o e1] at h3; rw [foot_map, h3ids k' o' g1] at h4
      have := hG2.disj _ _ oo oo' b e2 g2 h3 h4
      have := (List.getElem?_eq_some_iff.1 g1).1
      omega
    · rw [foot_map, h3new o e1] at h3; rw [h3old o' g2] at h4
      exact (mixed o' o ob' oo _ g1 g3 e2 h4 h3).elim
    · rw [foot_map, h3new o e1] at h3; rw [foot_map, h3new o' g1] at h4
      have := hG2.disj _ _ oo oo' b e2 g2 h3 h4
      omega
  · exact hS.keep.trans hk fun b hb hL ho => by
      obtain ⟨o, ob, _, h1, h2⟩ := hown1 b ho
      rcases hS.ownb b ⟨o, ob, h1, h2⟩ with h3 | h3
      · exact hL h3
      · omega
  · rcases own3' b hb with h1 | h1
    · exact hS.ownb b h1
    · exact .inr (Nat.le_trans hS.keep.size h1)
  · rw [h3old o (Nat.lt_of_lt_of_le ho hS.n0le)]; exact hS.fix o ho
  · simp only [afterCall, giveBack_len _ _ _ hlen] at ho
    rw [h3new o (by omega)]
    exact hd2 _ (by omega)
  · have := hS.n0le
    simp only [afterCall, giveBack_len _ _ _ hlen]
    omega
end
end Go.Vc
