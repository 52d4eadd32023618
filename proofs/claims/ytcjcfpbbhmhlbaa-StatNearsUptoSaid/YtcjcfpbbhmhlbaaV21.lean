/- Regions that draw their order: a plan of what is taken first, and where the orders part. -/
import Derived.Test.YtcjcfpbbhmhlbaaV20
import Derived.OrdersHeld
set_option linter.unusedVariables false
set_option linter.unusedSimpArgs false
namespace Go.Vc
/-- what is not in g stays; what is in g' was in g or is new -/
def Le (g : Nat → Prop) (w : World) (g' : Nat → Prop) (w' : World) : Prop := Keep g w w' ∧ ∀ b, g' b → g b ∨ w.heap.size ≤ b
theorem Le.refl (g : Nat → Prop) (w : World) : Le g w g w := ⟨Keep.refl _ _, fun b h => .inl h⟩
theorem Le.trans {g g1 g2 : Nat → Prop} {w w1 w2 : World} (h : Le g w g1 w1) (k : Le g1 w1 g2 w2) : Le g w g2 w2 :=
  ⟨h.1.trans k.1 fun b hb hn h1 => (h.2 b h1).elim hn fun h2 => by omega, fun b hb => (k.2 b hb).elim (h.2 b) fun h1 => .inr (Nat.le_trans h.1.size h1)⟩

def quietIx (T : Tab) (ops : Array Oper) (i : Nat) : Bool := match ops[i]? with
  | some o => isQuiet T o.op
  | none => false

section
variable {P : Program} {T : Tab} {ops : Array Oper} {Q : Exit → Act → World → Prop}
def wpAnyG (P : Program) (T : Tab) (ops : Array Oper) (Q : Exit → Act → World → Prop) : Nat → Array Bool → (Nat → Prop) → Act → World → Prop
  | 0, listed, g, a, w => Region.ready .any ops listed = [] ∧ Q .normal a w
  | fuel + 1, listed, g, a, w => (Region.ready .any ops listed = [] → Q .normal a w) ∧
    ∀ i ∈ Region.ready .any ops listed, wpOp P ops Q i (fun a' w' => (quietIx T ops i = true → w' = w) ∧ ∃ g', Le g w g' w' ∧ wpAnyG P T ops Q fuel (listed.setIfInBounds i true) g' a' w') a w
theorem wpAny_of_G : ∀ (fuel : Nat) (listed : Array Bool) (g : Nat → Prop) (a : Act) (w : World), wpAnyG P T ops Q fuel listed g a w → wpAny P .any ops Q fuel listed a w
  | 0, _, _, _, _, h => h
  | fuel + 1, _, _, _, _, h => ⟨h.1, fun i hi => wpOp_mono (fun a' w' ⟨_, g', _, h'⟩ => wpAny_of_G fuel _ g' a' w' h') (h.2 i hi)⟩

/-- the worlds that may come before an operation does -/
def Soon (g : Nat → Prop) (w : World) (b : Bool) (w' : World) : Prop := (∃ g', Le g w g' w') ∧ (b = true → w' = w)

theorem wpAnyG_first {i : Nat} {oi : Oper} {v : Value} {b : Bool} (hi : ops[i]? = some oi) (hsel : ∀ (j : Nat) (o : Oper) cs b, ops[j]? = some o → o.op ≠ .select cs b)
    (hQ : ∀ c a w, Q (.panic c) (a.put oi.dst v) w → Q (.panic c) a w) :
    ∀ (fuel : Nat) (listed : Array Bool) (g : Nat → Prop) (a : Act) (w : World),
      (∀ j oj, ops[j]? = some oj → j ≠ i → listed.getD j true = false → (∀ e ∈ oj.after, Region.binds .any e = true → e.on ≠ i) → oi.apart ops oj = true ∧ (b = true → isQuiet T oj.op = true)) →
      i ∈ Region.ready .any ops listed → YieldsIf P ops (Soon g w b) oi v a →
      wpAnyG P T ops Q fuel (listed.setIfInBounds i true) g (a.put oi.dst v) w → wpAnyG P T ops Q (fuel + 1) listed g a w := by
  intro fuel
  induction fuel with
  | zero =>
    intro listed g a w _ hr hy H
    refine ⟨fun h => (by rw [h] at hr; cases hr), fun j hj => ?_⟩
    by_cases hji : j = i
    · subst hji; exact hy.wpOp hi ⟨⟨g, Le.refl g w⟩, fun _ => rfl⟩ ⟨fun _ => rfl, g, Le.refl g w, H⟩
    · have := ready_mono hj hji
      rw [H.1] at this
      cases this
  | succ fuel ih =>
    intro listed g a w hfree hr hy H
    refine ⟨fun h => (by rw [h] at hr; cases hr), fun j hj => ?_⟩
    by_cases hji : j = i
    · subst hji; exact hy.wpOp hi ⟨⟨g, Le.refl g w⟩, fun _ => rfl⟩ ⟨fun _ => rfl, g, Le.refl g w, H⟩
    · have h1 := H.2 j (ready_mono hj hji)
      obtain ⟨hjun, oj, hoj, hall⟩ := mem_ready.1 hj
      have hnot : ∀ e ∈ oj.after, Region.binds .any e = true → e.on ≠ i := fun e he hb heq => by
        have h1 := hall e he hb
        have h0 := (mem_ready.1 hr).1
        rw [heq] at h1
        rcases Nat.lt_or_ge i listed.size with h' | h'
        · simp [h'] at h0 h1; rw [h0] at h1; cases h1
        · simp [Array.getElem?_eq_none h'] at h1
      have hap := hfree j oj hoj hji hjun hnot
      have h2 := wpOp_putIf hoj hap.1 (fun cs b => hsel i oi cs b hi) (fun cs b => hsel j oj cs b hoj) hQ hy h1
      have hfree' : ∀ k ok, ops[k]? = some ok → k ≠ i → (listed.setIfInBounds j true).getD k true = false →
          (∀ e ∈ ok.after, Region.binds .any e = true → e.on ≠ i) → oi.apart ops ok = true ∧ (b = true → isQuiet T ok.op = true) := fun k ok hk hki hun hno => by
        refine hfree k ok hk hki ?_ hno
        by_cases hjk : j = k
        · subst hjk; exact hjun
        · rw [Go.getD_set_ne true hjk] at hun; exact hun
      refine wpOp_mono (fun a' w' ⟨hy', hqj, g', hle, h3⟩ => ⟨hqj, g', hle, ih (listed.setIfInBounds j true) g' a' w' hfree' (ready_mono hr (Ne.symm hji)) ?_ ?_⟩) h2
      · have hw : b = true → w' = w := fun hb => hqj (by simp only [quietIx, hoj]; exact hap.2 hb)
        rcases hy' with ⟨hwd, hv⟩ | h4
        · refine .inl ⟨hwd, fun w2 hs => hv w2 ⟨?_, fun hb => ?_⟩⟩
          · obtain ⟨⟨g2, hle2⟩, _⟩ := hs
            exact ⟨g2, hle.trans hle2⟩
          · rw [hs.2 hb, hw hb]
        · exact .inr h4
      · rw [Array.setIfInBounds_comm _ _ hji]
        exact h3
end

/-! ### Plans -/
inductive Plan
  | done
  | take (i : Nat) (b : Bool) (p : Plan)
  | alt (i : Nat) (p rest : Plan)
  | stop
def Plan.heads : Plan → List Nat
  | .alt i _ rest => i :: rest.heads
  | _ => []
def waited (T : Tab) (ops : Array Oper) (listed : Array Bool) (i : Nat) : Bool :=
  (List.range ops.size).all fun j => j == i || listed.getD j true || match ops[j]? with
    | some o => isQuiet T o.op || o.after.any (fun e => Region.binds .any e && e.on == i)
    | none => true
def planOK (T : Tab) (ops : Array Oper) : Plan → Nat → Array Bool → Bool → Bool
  | .done, fuel, listed, top => top && (Region.ready .any ops listed).isEmpty
  | .take i b p, fuel, listed, top => top && (match fuel with
    | 0 => false
    | fuel + 1 => (Region.ready .any ops listed).contains i && Region.free .any ops listed i && (!b || waited T ops listed i) && planOK T ops p fuel (listed.setIfInBounds i true) true)
  | .alt i p rest, fuel, listed, top => (!top || Region.ready .any ops listed == i :: rest.heads) && (match fuel with
    | 0 => false
    | fuel + 1 => planOK T ops p fuel (listed.setIfInBounds i true) true) && planOK T ops rest fuel listed false
  | .stop, fuel, listed, top => !top

section
variable (C : FuncId → List AV → ASt → (AV → ASt → Prop) → Prop)
/-- one operation that only looks -/
def qstep (T : Tab) (ops : Array Oper) (o : Oper) (b : Bool) (st : ASt) (K : ASt → Prop) : Prop :=
  match o.guard with
    | none => (b = true ∨ ownLoad st o.op = false) ∧ (qop T st true o).1 ∧ K (st.put o.dst (qop T st true o).2)
    | some w => match guardOf ops st w.1 w.2 with
      | some g => (g = true → (b = true ∨ ownLoad st o.op = false) ∧ (qop T st g o).1) ∧ K (st.put o.dst (onG g (qop T st g o).2))
      | none => False
def lstep (T : Tab) (ops : Array Oper) (o : Oper) (st : ASt) (K : ASt → Prop) : Prop :=
  match o.guard with
    | none => aop C T o st K
    | some w => match guardOf ops st w.1 w.2 with
      | some g => (g = true → aop C T o st K) ∧ (g = false → K (st.put o.dst (.c .junk)))
      | none => False
def avc (T : Tab) (ops : Array Oper) : Plan → ASt → (ASt → Prop) → Prop
  | .done, st, K => K st
  | .take i b p, st, K => match ops.toList[i]? with
    | some o => isQuiet T o.op = true ∧ qstep T ops o b st (fun st' => avc T ops p st' K)
    | none => False
  | .alt i p rest, st, K => (match ops.toList[i]? with
    | some o => match isQuiet T o.op with
      | true => qstep T ops o true st (fun st' => avc T ops p st' K)
      | false => lstep C T ops o st (fun st' => st'.n0 = st.n0 ∧ avc T ops p st' K)
    | none => False) ∧ avc T ops rest st K
  | .stop, st, K => True
end

section
variable {P : Program} {T : Tab}
/-- a state, told from here on -/
theorem Sim.root {F : Fr} {st : ASt} {hs : Nat → Value} {a : Act} {w : World} (h : Sim F st hs a w) : Sim ⟨w, own st.objs hs, F.X, hs⟩ st hs a w :=
  ⟨h.len, h.slots, h.good, h.defers, Keep.refl _ _, fun b hb => .inl hb, fun o _ => rfl, fun b hb => by
    obtain ⟨h1, h2⟩ := h.fx b hb
    refine ⟨Nat.lt_of_lt_of_le h1 h.keep.size, fun ho => ?_⟩
    rcases h.ownb b ho with h3 | h3
    · exact h2 h3
    · omega, h.dead, h.n0le⟩
theorem Sim.unroot {F : Fr} {st st' : ASt} {hs hs' : Nat → Value} {a a' : Act} {w w' : World} (h : Sim F st hs a w) (h' : Sim ⟨w, own st.objs hs, F.X, hs⟩ st' hs' a' w') (hn : st'.n0 = st.n0) : Sim F st' hs' a' w' :=
  ⟨h'.len, h'.slots, h'.good, h'.defers, h.keep.trans h'.keep fun b hb hL ho => by
    rcases h.ownb b ho with h3 | h3
    · exact hL h3
    · omega, fun b hb => by
      rcases h'.ownb b hb with h3 | h3
      · exact h.ownb b h3
      · exact .inr (Nat.le_trans h.keep.size h3), fun o ho => by rw [h'.fix o ho]; exact h.fix o (by rw [← hn]; exact ho), h.fx, h'.dead, h'.n0le⟩
theorem Sim.le {F : Fr} {st st' : ASt} {hs hs' : Nat → Value} {a' : Act} {w w' : World} (h' : Sim ⟨w, own st.objs hs, F.X, hs⟩ st' hs' a' w') : Le (own st.objs hs) w (own st'.objs hs') w' := ⟨h'.keep, h'.ownb⟩

variable {ops : Array Oper} {Q : Exit → Act → World → Prop}
theorem getElem?_ops {i : Nat} {o : Oper} (h : ops.toList[i]? = some o) : ops[i]? = some o := by simpa using h

theorem qstep_yields (hT : TabOK P T) {F : Fr} {st : ASt} {hs : Nat → Value} {a : Act} {w : World} (h : Sim F st hs a w) {o : Oper} (hq : isQuiet T o.op = true) {b : Bool} {K : ASt → Prop} (hk : qstep T ops o b st K) :
    ∃ v av, YieldsIf P ops (Soon (own st.objs hs) w b) o v a ∧ RV w (avoid F st.objs hs) hs av v ∧ K (st.put o.dst av) := by
  have key : (b = true ∨ ownLoad st o.op = false) → (qop T st true o).1 → ∃ v, (∀ w', Soon (own st.objs hs) w b w' → (execOp a.eval o).run P w' = .ok (.value v) w') ∧ RV w (avoid F st.objs hs) hs (qop T st true o).2 v := fun h1 h2 => by
    obtain ⟨v, e1, e2⟩ := qop_sound (P := P) hT h rfl h2
    refine ⟨v, fun w' ⟨⟨g', hle⟩, hb⟩ => ?_, e2⟩
    rcases h1 with h1 | h1
    · rw [hb h1]; exact e1
    · exact qop_same hT h h2 hq h1 e1 hle.1
  unfold qstep at hk
  cases hgd : o.guard with
  | none =>
    simp only [hgd] at hk
    obtain ⟨v, h1, h2⟩ := key hk.1 hk.2.1
    exact ⟨v, _, .inl ⟨wanted_none hgd, h1⟩, h2, hk.2.2⟩
  | some p =>
    simp only [hgd] at hk
    cases hgo : guardOf ops st p.1 p.2 with
    | none => rw [hgo] at hk; exact hk.elim
    | some g =>
      rw [hgo] at hk
      have hw := wanted_some hgd (y := yielded ops a.tmps)
      rw [guardOf_sound h hgo] at hw
      cases g with
      | true =>
        obtain ⟨h0, hK⟩ := hk
        obtain ⟨v, h1, h2⟩ := key (h0 rfl).1 (h0 rfl).2
        exact ⟨v, _, .inl ⟨hw, h1⟩, onG_sound rfl h2 (qop_need (h0 rfl).2), hK⟩
      | false => exact ⟨undef, onG false (qop T st false o).2, .inr ⟨hw, rfl⟩, onG_false _, hk.2⟩

theorem avc_sound (hT : TabOK P T) (hsel : Region.noSelect ops = true) {F : Fr} {n0 : Nat} {K : ASt → Prop} (hKQ : ∀ st hs a w, K st → Sim F st hs a w → Q .normal a w) (hQp : ∀ c a w, ¬ Q (.panic c) a w) :
    ∀ (pl : Plan) (fuel : Nat) (listed : Array Bool) (top : Bool) (st : ASt) (hs : Nat → Value) (a : Act) (w : World), planOK T ops pl fuel listed top = true → Sim F st hs a w → st.n0 = n0 → avc (CallAt P) T ops pl st K →
      (top = true → wpAnyG P T ops Q fuel listed (own st.objs hs) a w) ∧
      ∀ i ∈ pl.heads, ∃ f0, fuel = f0 + 1 ∧ wpOp P ops Q i (fun a' w' => (quietIx T ops i = true → w' = w) ∧ ∃ g', Le (own st.objs hs) w g' w' ∧ wpAnyG P T ops Q f0 (listed.setIfInBounds i true) g' a' w') a w
  | .done, fuel, listed, top, st, hs, a, w, hok, h, hn, hk => by
    simp only [planOK, Bool.and_eq_true, List.isEmpty_iff] at hok
    refine ⟨fun _ => ?_, fun i hi => by cases hi⟩
    cases fuel with
    | zero => exact ⟨hok.2, hKQ _ _ _ _ hk h⟩
    | succ f => exact ⟨fun _ => hKQ _ _ _ _ hk h, fun i hi => by rw [hok.2] at hi; cases hi⟩
  | .stop, fuel, listed, top, st, hs, a, w, hok, h, hn, hk => by
    simp only [planOK, Bool.not_eq_true'] at hok
    exact ⟨fun e => (by rw [hok] at e; cases e), fun i hi => by cases hi⟩
  | .take i b p, fuel, listed, top, st, hs, a, w, hok, h, hn, hk => by
    refine ⟨fun _ => ?_, fun i hi => by cases hi⟩
    simp only [planOK, Bool.and_eq_true] at hok
    cases fuel with
    | zero => cases hok.2
    | succ f =>
      simp only [Bool.and_eq_true, List.contains_iff_mem] at hok
      obtain ⟨_, ⟨⟨hr, hf⟩, hb⟩, hp⟩ := hok
      simp only [avc] at hk
      cases ho : ops.toList[i]? with
      | none => rw [ho] at hk; exact hk.elim
      | some o =>
        rw [ho] at hk
        have hi := getElem?_ops ho
        obtain ⟨v, av, hy, hrv, hK⟩ := qstep_yields (P := P) hT h hk.1 hk.2
        refine wpAnyG_first hi (Region.noSelect_spec hsel) (fun c a w hq => (hQp _ _ _ hq).elim) f listed _ a w (fun j oj hj hne hun hno => ⟨Region.free_spec hi hf j oj hj hne hun hno, fun hbt => ?_⟩) hr hy ?_
        · subst hbt
          simp only [Bool.not_true, Bool.false_or, waited, List.all_eq_true, List.mem_range] at hb
          have := hb j (Array.getElem?_eq_some_iff.1 hj).1
          simp only [hj, Bool.or_eq_true, beq_iff_eq, hne, false_or, hun, Bool.false_eq_true] at this
          rcases this with h1 | h1
          · exact h1
          · rw [← Array.any_toList, List.any_eq_true] at h1
            obtain ⟨e, he, h2⟩ := h1
            simp only [Bool.and_eq_true, beq_iff_eq] at h2
            exact absurd h2.2 (hno e (by simpa using he) h2.1)
        · have := (avc_sound hT hsel hKQ hQp p f _ true _ hs _ w hp (h.put o.dst hrv) (by cases o.dst <;> exact hn) hK).1 rfl
          have e : (st.put o.dst av).objs = st.objs := by cases o.dst <;> rfl
          rw [e] at this
          exact this
  | .alt i p rest, fuel, listed, top, st, hs, a, w, hok, h, hn, hk => by
    simp only [planOK, Bool.and_eq_true] at hok
    obtain ⟨⟨h1, h2⟩, h3⟩ := hok
    obtain ⟨hk1, hk2⟩ := hk
    have hrest := (avc_sound hT hsel hKQ hQp rest fuel listed false st hs a w h3 h hn hk2).2
    cases fuel with
    | zero => cases h2
    | succ f =>
      have step : wpOp P ops Q i (fun a' w' => (quietIx T ops i = true → w' = w) ∧ ∃ g', Le (own st.objs hs) w g' w' ∧ wpAnyG P T ops Q f (listed.setIfInBounds i true) g' a' w') a w := by
        cases ho : ops.toList[i]? with
        | none => rw [ho] at hk1; exact hk1.elim
        | some o =>
          simp only [ho] at hk1
          have hi := getElem?_ops ho
          cases hq : isQuiet T o.op with
          | true =>
            simp only [hq] at hk1
            obtain ⟨v, av, hy, hrv, hK⟩ := qstep_yields (P := P) hT h hq hk1
            refine hy.wpOp hi ⟨⟨_, Le.refl _ _⟩, fun _ => rfl⟩ ⟨fun _ => rfl, own st.objs hs, Le.refl _ _, ?_⟩
            have := (avc_sound hT hsel hKQ hQp p f _ true _ hs _ w h2 (h.put o.dst hrv) (by cases o.dst <;> exact hn) hK).1 rfl
            have e : (st.put o.dst av).objs = st.objs := by cases o.dst <;> rfl
            rw [e] at this
            exact this
          | false =>
            simp only [hq] at hk1
            have hqi : quietIx T ops i = true → False := fun e => by simp only [quietIx, hi, hq] at e; cases e
            have loud : aop (CallAt P) T o st (fun st' => st'.n0 = st.n0 ∧ avc (CallAt P) T ops p st' K) →
                o.wp P a w (fun a' w' => (quietIx T ops i = true → w' = w) ∧ ∃ g', Le (own st.objs hs) w g' w' ∧ wpAnyG P T ops Q f (listed.setIfInBounds i true) g' a' w') Q := fun ha => by
              exact Oper.wp_mono (fun a' w' ⟨st', hs', ⟨hn', hK⟩, hS⟩ => ⟨fun e => (hqi e).elim, own st'.objs hs', hS.le, (avc_sound hT hsel hKQ hQp p f _ true st' hs' a' w' h2 (h.unroot hS hn') (hn'.trans hn) hK).1 rfl⟩) (aop_sound hT h.root ha)
            unfold lstep at hk1
            unfold wpOp
            simp only [hi]
            cases hgd : o.guard with
            | none =>
              simp only [hgd] at hk1
              rw [if_pos (wanted_none hgd)]
              exact .inl (loud hk1)
            | some q =>
              simp only [hgd] at hk1
              rw [wanted_some hgd]
              cases hgo : guardOf ops st q.1 q.2 with
              | none => rw [hgo] at hk1; exact hk1.elim
              | some g =>
                rw [hgo] at hk1
                rw [guardOf_sound h hgo]
                cases g with
                | true =>
                  simp only [if_true]
                  exact .inl (loud (hk1.1 rfl))
                | false =>
                  simp only [Bool.false_eq_true, if_false]
                  refine ⟨fun e => (hqi e).elim, own st.objs hs, Le.refl _ _, ?_⟩
                  have := (avc_sound hT hsel hKQ hQp p f _ true _ hs _ w h2 (h.put o.dst (av := .c .junk) (v := undef) trivial) (by cases o.dst <;> exact hn) (hk1.2 rfl).2).1 rfl
                  have e : (st.put o.dst (.c .junk)).objs = st.objs := by cases o.dst <;> rfl
                  rw [e] at this
                  exact this
      refine ⟨fun ht => ?_, fun j hj => ?_⟩
      · subst ht
        simp only [Bool.not_true, Bool.false_or, beq_iff_eq] at h1
        refine ⟨fun e => (by rw [h1] at e; cases e), fun j hj => ?_⟩
        rw [h1] at hj
        rcases List.mem_cons.1 hj with rfl | hj
        · exact step
        · obtain ⟨f0, e, h4⟩ := hrest j hj
          cases e
          exact h4
      · rcases List.mem_cons.1 hj with rfl | hj
        · exact ⟨f, rfl, step⟩
        · exact hrest j hj

theorem DrawAt.plan (hT : TabOK P T) (hm : P.follows .mixedOrders = true) {id : Nat} {ops : Array Oper} {st : ASt} {K : ASt → Prop} (pl : Plan)
    (hok : (Region.noSelect ops && planOK T ops pl ops.size (Array.replicate ops.size false) true) = true) (h : avc (CallAt P) T ops pl st K) : DrawAt P id ops st K := by
  intro F hs a w hS
  simp only [Bool.and_eq_true] at hok
  refine wp_region_any hm (wpAny_of_G (T := T) _ _ (own st.objs hs) _ _ ?_)
  exact (avc_sound hT hok.1 (fun st' hs' a' w' hK hS' => ⟨st', hs', hK, hS'⟩) (fun c a w h => h) pl _ _ true st hs a w.drew hok.2 hS.drew rfl h).1 rfl
end
section
variable {C : FuncId → List AV → ASt → (AV → ASt → Prop) → Prop} {T : Tab} {s : List AV} {o : List AObj} {n : Nat} {K : ASt → Prop} {ops : Array Oper}
theorem avc_done : avc C T ops .done ⟨s, o, n⟩ K = K ⟨s, o, n⟩ := rfl
theorem avc_stop : avc C T ops .stop ⟨s, o, n⟩ K = True := rfl
theorem avc_take {i : Nat} {b : Bool} {p : Plan} : avc C T ops (.take i b p) ⟨s, o, n⟩ K = (match ops.toList[i]? with
    | some x => isQuiet T x.op = true ∧ qstep T ops x b ⟨s, o, n⟩ (fun st' => avc C T ops p st' K)
    | none => False) := rfl
theorem avc_alt {i : Nat} {p rest : Plan} : avc C T ops (.alt i p rest) ⟨s, o, n⟩ K = ((match ops.toList[i]? with
    | some x => match isQuiet T x.op with
      | true => qstep T ops x true ⟨s, o, n⟩ (fun st' => avc C T ops p st' K)
      | false => lstep C T ops x ⟨s, o, n⟩ (fun st' => st'.n0 = n ∧ avc C T ops p st' K)
    | none => False) ∧ avc C T ops rest ⟨s, o, n⟩ K) := rfl
theorem put_n0 {st : ASt} {d : Option Tmp} {v : AV} : (st.put d v).n0 = st.n0 := by cases d <;> rfl
end
end Go.Vc
