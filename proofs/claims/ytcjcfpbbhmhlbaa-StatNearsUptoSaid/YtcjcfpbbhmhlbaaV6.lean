/- What it means to run code from a state; how states change where memory is written or made. -/
import Derived.Test.YtcjcfpbbhmhlbaaV5
set_option linter.unusedVariables false
set_option linter.unusedSimpArgs false
namespace Go.Vc

def QW (F : Fr) (Q : Exit → ASt → Prop) : Exit → Act → World → Prop
  | .outgrown, _, _ => False
  | .panic _, _, _ => False
  | e, a, w => ∃ st hs, Q e st ∧ Sim F st hs a w

/-- code, run from whatever the state tells of, ends as Q says -/
def AWP (P : Program) (c : Code) (Q : Exit → ASt → Prop) (st : ASt) : Prop := ∀ F hs a w, Sim F st hs a w → c.wp P (QW F Q) a w

def Enters (P : Program) (f : FuncId) : Prop := ∀ args w, (callFunc f args).run P w = .ok (.enter f args) w
def CallS (P : Program) (f : FuncId) (vals : Array Value) (w : World) (R : Ending → World → Prop) : Prop :=
  (Enters P f ∧ Calls P f vals w R) ∨ ∃ v w', (callFunc f vals).run P w = .ok (.value v) w' ∧ R (.returned v) w'

def CPost (F : Fr) (K : AV → ASt → Prop) (a : Act) : Ending → World → Prop
  | .returned v, w' => ∃ r st' hs', K r st' ∧ Sim F st' hs' a w' ∧ RV w' (avoid F st'.objs hs') hs' r v
  | .panicked _, _ => False
  | .outgrown, _ => False

/-- a call out of a frame -/
def CallAt (P : Program) (f : FuncId) (args : List AV) (st : ASt) (K : AV → ASt → Prop) : Prop :=
  ∀ F hs a w (vals : Array Value), Sim F st hs a w → vals.size = args.length →
    (∀ (i : Nat) (x : AV) (v : Value), args[i]? = some x → vals[i]? = some v → RV w (avoid F st.objs hs) hs x v) → CallS P f vals w (CPost F K a)

section
variable {P : Program} {T : Tab} {F : Fr} {st : ASt} {hs : Nat → Value} {a : Act} {w : World}

theorem getElem?_setObj {objs : List AObj} {o p : Nat} {ob ob' x : AObj} (h : (objs.set o ob')[p]? = some x) (ho : objs[o]? = some ob) : (p = o ∧ x = ob') ∨ (p ≠ o ∧ objs[p]? = some x) := by
  rw [List.getElem?_set] at h
  have hl : o < objs.length := (List.getElem?_eq_some_iff.1 ho).1
  by_cases hp : o = p
  · subst hp
    rw [if_pos rfl, if_pos hl] at h
    cases h
    exact .inl ⟨rfl, rfl⟩
  · rw [if_neg hp] at h
    exact .inr ⟨fun e => hp e.symm, h⟩

theorem own_set {objs : List AObj} {o : Nat} {ob ob' : AObj} {hs : Nat → Value} (ho : objs[o]? = some ob) (hf : ∀ b, foot ob' (hs o) b ↔ foot ob (hs o) b) (b : Nat) :
    own (objs.set o ob') hs b ↔ own objs hs b := by
  have hl : o < objs.length := (List.getElem?_eq_some_iff.1 ho).1
  constructor
  · rintro ⟨p, x, hx, hb⟩
    rcases getElem?_setObj hx ho with ⟨rfl, rfl⟩ | ⟨_, hx⟩
    · exact ⟨p, ob, ho, (hf b).1 hb⟩
    · exact ⟨p, x, hx, hb⟩
  · rintro ⟨p, x, hx, hb⟩
    by_cases hp : o = p
    · subst hp
      rw [ho] at hx
      cases hx
      exact ⟨o, ob', by rw [List.getElem?_set, if_pos rfl, if_pos hl], (hf b).2 hb⟩
    · exact ⟨p, x, by rw [List.getElem?_set, if_neg hp]; exact hx, hb⟩

/-- an own block is written: the object that lives in it is told anew -/
theorem Sim.write (h : Sim F st hs a w) {o : Nat} {ob ob' : AObj} (ho : st.objs[o]? = some ob) {b : Nat} (hf : foot ob (hs o) b) (hf' : ∀ b, foot ob' (hs o) b ↔ foot ob (hs o) b)
    {w' : World} (hk : Keep (fun x => x = b) w w') (hro : (∀ {x v}, RC w (avoid F st.objs hs) hs x v → RC w' (avoid F st.objs hs) hs x v) → (∀ {d v}, RD w (avoid F st.objs hs) d v → RD w' (avoid F st.objs hs) d v) → RO w' (avoid F st.objs hs) hs ob' (hs o)) :
    Sim F (st.setObj o ob') hs a w' := by
  have hown : own st.objs hs b := ⟨o, ob, ho, hf⟩
  have ha : avoid F (st.setObj o ob').objs hs = avoid F st.objs hs := by
    funext x
    simp only [avoid, ASt.setObj, own_set ho hf' x]
  have hm : ∀ x, x < w.heap.size → ¬ avoid F st.objs hs x → w'.heap[x]? = w.heap[x]? ∧ ¬ avoid F st.objs hs x := fun x hx hO => ⟨hk.block x hx fun e => hO (.inl (e ▸ hown)), hO⟩
  have hro' := hro (fun hr => hr.mono hk.size hm) (fun hr => hr.mono hk.size hm)
  refine ⟨h.len, fun i av v h1 h2 => ?_, ⟨fun p x hx => ?_, fun p q x y c hx hy h1 h2 => ?_⟩, h.defers, ?_, fun c hc => h.ownb c ((own_set ho hf' c).1 hc), h.fix, h.fx, fun p hp => h.dead p (by simpa [ASt.setObj] using hp), by simpa [ASt.setObj] using h.n0le⟩
  · rw [ha]; exact RV.mono hk.size hm (h.slots i av v h1 h2)
  · rw [ha]
    rcases getElem?_setObj hx ho with ⟨rfl, rfl⟩ | ⟨hne, hx⟩
    · exact hro'
    · refine RO.mono hk.size hm (h.good.rel p x hx) fun c hc => hk.block c ((h.good.rel p x hx).foot_lt hc) fun e => ?_
      subst e
      exact hne (h.good.disj p o x ob c hx ho hc hf)
  · have back : ∀ (p : Nat) (x : AObj), (st.setObj o ob').objs[p]? = some x → foot x (hs p) c → ∃ y, st.objs[p]? = some y ∧ foot y (hs p) c := fun p x hx hc => by
      rcases getElem?_setObj hx ho with ⟨rfl, rfl⟩ | ⟨_, hx⟩
      · exact ⟨ob, ho, (hf' c).1 hc⟩
      · exact ⟨x, hx, hc⟩
    obtain ⟨x', hx', h1'⟩ := back p x hx h1
    obtain ⟨y', hy', h2'⟩ := back q y hy h2
    exact h.good.disj p q x' y' c hx' hy' h1' h2'
  · exact h.keep.trans hk fun x hx hL e => (h.ownb b hown).elim (fun hb => hL (e ▸ hb)) fun hb => by omega

/-! ### New objects -/
def setH (hs : Nat → Value) (o : Nat) (v : Value) : Nat → Value := fun p => if p = o then v else hs p

theorem RC.newH {O : Nat → Prop} {n : Nat} {u : Value} (hd : hs n = .nilFunc) {x : AC} {v : Value} (h : RC w O hs x v) : RC w O (setH hs n u) x v := by
  have hne : ∀ o, hs o ≠ .nilFunc → setH hs n u o = hs o := fun o ho => by
    unfold setH
    split
    · rename_i e; subst e; exact absurd hd ho
    · rfl
  cases x <;> simp only [RC] at h ⊢ <;> try exact h
  case ptr o j => obtain ⟨b, e1, e2⟩ := h; exact ⟨b, by rw [hne o (by rw [e1]; simp), e1], e2⟩
  case sl o => obtain ⟨e1, e2⟩ := h; rw [hne o (by intro e; rw [e] at e2; cases e2)]; exact ⟨e1, e2⟩
  case sub o size lo m =>
    rcases h with ⟨g0, A, cp, g1, g2, g3, g4, g5⟩ | ⟨h0, b, m', cap, c, e1, r⟩
    · have e2 := hne o (by intro e; rw [e] at g4; cases g4)
      exact .inl ⟨g0, A, cp, g1, g2, g3, by rw [e2]; exact g4, by rw [e2]; exact g5⟩
    · exact .inr ⟨h0, b, m', cap, c, by rw [hne o (by rw [e1]; simp), e1], r⟩
  case el o size i j => obtain ⟨b, m, cap, e1, e2⟩ := h; exact ⟨b, m, cap, by rw [hne o (by rw [e1]; simp), e1], e2⟩
  case xr o r => rw [hne o (XRef.rel_ne h)]; exact h
  case fn f caps =>
    obtain ⟨arr, e, hl, hc⟩ := h
    refine ⟨arr, e, hl, fun i p hp => ?_⟩
    obtain ⟨b, e1, e2⟩ := hc i p hp
    exact ⟨b, by rw [hne p.1 (by rw [e1]; simp), e1], e2⟩
theorem RCs.newH {O : Nat → Prop} {n : Nat} {u : Value} (hd : hs n = .nilFunc) {cs : List AC} {vs : List Value} (h : RCs w O hs cs vs) : RCs w O (setH hs n u) cs vs :=
  ⟨h.1, fun i x v hx hv => (h.2 i x v hx hv).newH hd⟩
theorem RV.newH {O : Nat → Prop} {n : Nat} {u : Value} (hd : hs n = .nilFunc) {x : AV} {v : Value} (h : RV w O hs x v) : RV w O (setH hs n u) x v := by
  cases x with
  | c x => exact RC.newH hd h
  | agg cs => obtain ⟨arr, e, hr⟩ := h; exact ⟨arr, e, hr.newH hd⟩
  | tup vs =>
    obtain ⟨arr, e, hl, hr⟩ := h
    refine ⟨arr, e, hl, fun i p v hp hv => ?_⟩
    have := hr i p v hp hv
    obtain ⟨g, cs⟩ := p
    cases g
    · exact fun x hx => (this x hx).newH hd
    · obtain ⟨arr', e', hr'⟩ := this
      exact ⟨arr', e', hr'.newH hd⟩
  | on g x => exact ⟨fun hg => (h.1 hg).newH hd, h.2⟩
theorem RO.newH {O : Nat → Prop} {n : Nat} {u : Value} (hd : hs n = .nilFunc) {ob : AObj} {v : Value} (h : RO w O hs ob v) : RO w O (setH hs n u) ob v := by
  cases ob with
  | ext x => exact XObj.imp_id (fun hr => RC.newH hd hr) (fun hr => hr) (fun _ _ => rfl) h
  | gone => exact trivial
  | cells ty cs => obtain ⟨b, vals, e, hb, hr⟩ := h; exact ⟨b, vals, e, hb, hr.newH hd⟩
  | row => exact h

/-- a new object, in a block that was not there -/
theorem Sim.new (h : Sim F st hs a w) {ob : AObj} {u : Value} {w' : World} (hk : Keep (fun _ => False) w w') (hfresh : ∀ b, foot ob u b → w.heap.size ≤ b)
    (hro : (∀ {x v}, RC w (avoid F st.objs hs) hs x v → RC w' (avoid F (st.objs ++ [ob]) (setH hs st.objs.length u)) (setH hs st.objs.length u) x v) →
      (∀ {d v}, RD w (avoid F st.objs hs) d v → RD w' (avoid F (st.objs ++ [ob]) (setH hs st.objs.length u)) d v) → RO w' (avoid F (st.objs ++ [ob]) (setH hs st.objs.length u)) (setH hs st.objs.length u) ob u) :
    Sim F (newObj st ob) (setH hs st.objs.length u) a w' ∧ ∀ {x v}, RV w (avoid F st.objs hs) hs x v → RV w' (avoid F (newObj st ob).objs (setH hs st.objs.length u)) (setH hs st.objs.length u) x v := by
  have hd : hs st.objs.length = .nilFunc := h.dead _ (Nat.le_refl _)
  have hsn : setH hs st.objs.length u st.objs.length = u := by simp [setH]
  have hso : ∀ o, o < st.objs.length → setH hs st.objs.length u o = hs o := fun o ho => by simp [setH]; intro e; omega
  have look : ∀ (p : Nat) (x : AObj), (st.objs ++ [ob])[p]? = some x → (p < st.objs.length ∧ st.objs[p]? = some x) ∨ (p = st.objs.length ∧ x = ob) := fun p x hx => by
    rw [List.getElem?_append] at hx
    split at hx
    · rename_i hp; exact .inl ⟨hp, hx⟩
    · rename_i hp
      have : p - st.objs.length = 0 := by
        rcases Nat.eq_zero_or_pos (p - st.objs.length) with h' | h'
        · exact h'
        · rw [List.getElem?_eq_none (by simp; omega)] at hx; cases hx
      rw [this] at hx
      cases hx
      exact .inr ⟨by omega, rfl⟩
  have hown : ∀ b, own (st.objs ++ [ob]) (setH hs st.objs.length u) b → own st.objs hs b ∨ w.heap.size ≤ b := fun b ⟨p, x, hx, hf⟩ => by
    rcases look p x hx with ⟨hp, hx'⟩ | ⟨rfl, rfl⟩
    · rw [hso p hp] at hf; exact .inl ⟨p, x, hx', hf⟩
    · rw [hsn] at hf; exact .inr (hfresh b hf)
  have hm : ∀ b, b < w.heap.size → ¬ avoid F st.objs hs b → w'.heap[b]? = w.heap[b]? ∧ ¬ avoid F (st.objs ++ [ob]) (setH hs st.objs.length u) b := fun b hb hO =>
    ⟨hk.block b hb (fun e => e), fun hA => hA.elim (fun ho => (hown b ho).elim (fun h' => hO (.inl h')) fun h' => by omega) fun hX => hO (.inr hX)⟩
  have hc : ∀ {x v}, RC w (avoid F st.objs hs) hs x v → RC w' (avoid F (st.objs ++ [ob]) (setH hs st.objs.length u)) (setH hs st.objs.length u) x v := fun hr => (RC.mono hk.size hm hr).newH hd
  have hro' := hro hc (fun hr => RD.mono hk.size hm hr)
  refine ⟨⟨h.len, fun i av v h1 h2 => (RV.mono hk.size hm (h.slots i av v h1 h2)).newH hd, ⟨fun p x hx => ?_, fun p q x y c hx hy h1 h2 => ?_⟩, h.defers,
    h.keep.trans hk fun _ _ _ e => e, fun b hb => ?_, fun o ho => ?_, h.fx, fun o ho => ?_, by have := h.n0le; simp [newObj]; omega⟩, fun hr => (RV.mono hk.size hm hr).newH hd⟩
  · rcases look p x hx with ⟨hp, hx'⟩ | ⟨rfl, rfl⟩
    · rw [hso p hp]
      have hr := h.good.rel p x hx'
      exact (RO.mono hk.size hm hr fun c hc => hk.block c (hr.foot_lt hc) fun e => e).newH hd
    · rw [hsn]; exact hro'
  · rcases look p x hx with ⟨hp, hx'⟩ | ⟨rfl, rfl⟩ <;> rcases look q y hy with ⟨hq, hy'⟩ | ⟨rfl, rfl⟩
    · rw [hso p hp] at h1; rw [hso q hq] at h2; exact h.good.disj p q x y c hx' hy' h1 h2
    · rw [hso p hp] at h1; rw [hsn] at h2
      have := (h.good.rel p x hx').foot_lt h1
      have := hfresh c h2
      omega
    · rw [hso q hq] at h2; rw [hsn] at h1
      have := (h.good.rel q y hy').foot_lt h2
      have := hfresh c h1
      omega
    · rfl
  · rcases hown b hb with h' | h'
    · exact h.ownb b h'
    · exact .inr (Nat.le_trans h.keep.size h')
  · rw [hso o (Nat.lt_of_lt_of_le ho h.n0le)]; exact h.fix o ho
  · have : o ≠ st.objs.length := by intro e; subst e; simp [newObj] at ho; omega
    simp [setH, this]
    exact h.dead o (by simp [newObj] at ho; omega)
end
end Go.Vc
