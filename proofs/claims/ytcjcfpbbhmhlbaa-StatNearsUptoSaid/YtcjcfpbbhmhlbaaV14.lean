/- Loops by an invariant; functions by their bodies; calls by what a function is known to do. -/
import Derived.Test.YtcjcfpbbhmhlbaaV13
import Derived.Deep.LoopGhost
set_option linter.unusedVariables false
set_option linter.unusedSimpArgs false
namespace Go.Vc
section
variable {P : Program} {T : Tab}

/-! ### Loops -/
def lessS : List AV → List AV → Prop
  | [], [] => True
  | x :: xs, y :: ys => (y = .c .junk ∨ x = y) ∧ lessS xs ys
  | _, _ => False
def lessO : List AObj → List AObj → Prop
  | _, [] => True
  | x :: xs, y :: ys => x = y ∧ lessO xs ys
  | [], _ :: _ => False
def belowS (n : Nat) : List AV → Bool
  | [] => true
  | x :: xs => x.below n && belowS n xs
def belowO (n : Nat) : List AObj → Bool
  | [] => true
  | x :: xs => x.below n && belowO n xs
/-- 'Less', told so that it can be reckoned -/
def LessC (st st' : ASt) : Prop := lessS st.slots st'.slots ∧ lessO st.objs st'.objs ∧ st'.n0 = st.n0 ∧ st'.n0 ≤ st'.objs.length ∧ belowS st'.objs.length st'.slots = true ∧ belowO st'.objs.length st'.objs = true

theorem lessS_spec : ∀ {xs ys : List AV}, lessS xs ys → ys.length = xs.length ∧ ∀ (i : Nat) (y : AV), ys[i]? = some y → xs[i]? = some y ∨ y = .c .junk
  | [], [], _ => ⟨rfl, fun i y h => by simp at h⟩
  | [], _ :: _, h => h.elim
  | _ :: _, [], h => h.elim
  | x :: xs, y :: ys, h => by
    obtain ⟨h1, h2⟩ := lessS_spec h.2
    refine ⟨by simp [h1], fun i z hz => ?_⟩
    cases i with
    | zero => simp at hz; subst hz; exact h.1.symm.imp (fun e => by simp [e]) id
    | succ i => exact h2 i z (by simpa using hz)
theorem lessO_spec : ∀ {xs ys : List AObj}, lessO xs ys → ys = xs.take ys.length
  | xs, [], _ => by simp
  | [], _ :: _, h => h.elim
  | x :: xs, y :: ys, h => by
    obtain ⟨rfl, h2⟩ := h
    simp only [List.length_cons, List.take_succ_cons]
    rw [← lessO_spec h2]
theorem belowS_spec {n : Nat} : ∀ {xs : List AV}, belowS n xs = true → (xs.all (AV.below n)) = true
  | [], _ => rfl
  | x :: xs, h => by
    simp only [belowS, Bool.and_eq_true] at h
    simp [h.1, belowS_spec h.2]
theorem belowO_spec {n : Nat} : ∀ {xs : List AObj}, belowO n xs = true → (xs.all (AObj.below n)) = true
  | [], _ => rfl
  | x :: xs, h => by
    simp only [belowO, Bool.and_eq_true] at h
    simp [h.1, belowO_spec h.2]
theorem LessC.less {st st' : ASt} (h : LessC st st') : Less st st' :=
  ⟨lessS_spec h.1, lessO_spec h.2.1, ⟨h.2.2.1, h.2.2.2.1⟩, belowS_spec h.2.2.2.2.1, belowO_spec h.2.2.2.2.2⟩

/-- the slots that a code writes -/
def opDsts : List Oper → List Nat
  | [] => []
  | o :: os => match o.dst with
    | some d => d :: opDsts os
    | none => opDsts os
def dsts : Code → List Nat
  | .region _ ops _ => opDsts ops.toList
  | .seq a b => dsts a ++ dsts b
  | .cond _ a b => dsts a ++ dsts b
  | .block _ c => dsts c
  | .loop c => dsts c
  | _ => []
def resetS : List Nat → List AV → List AV
  | [], s => s
  | d :: ds, s => resetS ds (s.set d (.c .junk))
def putsS : List (Nat × AV) → List AV → List AV
  | [], s => s
  | p :: ps, s => putsS ps (s.set p.1 p.2)
/-- the state at a loop's head: what the body writes is forgotten, but for what is told -/
def headSt (st : ASt) (body : Code) (vars : List (Nat × AV)) (objs : List AObj) : ASt := { slots := putsS vars (resetS (dsts body) st.slots), objs := objs, n0 := st.n0 }

theorem LoopAt.inv {ι : Type _} {body : Code} {Q : Exit → ASt → Prop} {st : ASt} (vars : ι → List (Nat × AV)) (objs : ι → List AObj) (R : ι → Prop) (μ : ι → Nat) (hT : TabOK P T)
    (x0 : ι) (h0 : R x0) (hl : LessC st (headSt st body (vars x0) (objs x0)))
    (round : ∀ x, R x → VCp P T body (fun e st' => match e with
      | .normal => ∃ x', R x' ∧ μ x' < μ x ∧ LessC st' (headSt st body (vars x') (objs x'))
      | .exit i => Q (.exit i) st'
      | .ret => Q .ret st'
      | _ => False) (headSt st body (vars x) (objs x))) : LoopAt P body Q st := by
  intro F hs a w hS
  obtain ⟨hs', hS'⟩ := hS.less hl.less
  refine wp_loop_ghost (fun n a w => ∃ x hs, μ x = n ∧ R x ∧ Sim F (headSt st body (vars x) (objs x)) hs a w) (μ x0) ⟨x0, hs', rfl, h0, hS'⟩ ?_
  rintro n a w ⟨x, hs, rfl, hR, hS⟩
  refine wp_mono (VC_sound hT body _ _ (round x hR) F hs a w hS) fun e a' w' hQ => ?_
  cases e with
  | outgrown => exact hQ.elim
  | panic c => exact hQ.elim
  | normal =>
    obtain ⟨st', hs1, ⟨x', hR', hμ, hl'⟩, hS1⟩ := hQ
    obtain ⟨hs2, hS2⟩ := hS1.less hl'.less
    exact ⟨μ x', hμ, x', hs2, rfl, hR', hS2⟩
  | exit i => exact hQ
  | ret => exact hQ
  | goto l => obtain ⟨_, _, h, _⟩ := hQ; exact h.elim

/-- an own row in the place of a nil slice -/
def adopt (st : ASt) (i : Nat) (ty : TypeId) (size : Nat) (α : Type) (z : α) (enc : α → List DV) : ASt :=
  { newObj st (.row ty size α z enc []) with slots := st.slots.set i (.c (.sl st.objs.length)) }
theorem AWP.adopt {c : Code} {Q : Exit → ASt → Prop} {st : ASt} (i : Nat) (ty : TypeId) (size : Nat) (α : Type) (z : α) (enc : α → List DV) (hi : st.slots[i]? = some (.c .nil)) (henc : ∀ x, (enc x).length = size)
    (h : AWP P c Q (adopt st i ty size α z enc)) : AWP P c Q st := by
  intro F hs a w hS
  obtain ⟨hS1, _⟩ := hS.new (ob := .row ty size α z enc []) (u := .slice none 0 0) (w' := w) (Keep.refl _ w) (fun b hb => by simp [foot, hblk] at hb) fun _ _ => ⟨henc, [], World.ownsRow_nil w 0 ty size, fun i j d hi => by simp at hi⟩
  refine h F _ a w ⟨by simpa [Vc.adopt, newObj] using hS1.len, fun k x v hx hv => ?_, hS1.good, hS1.defers, hS1.keep, hS1.ownb, hS1.fix, hS1.fx, hS1.dead, hS1.n0le⟩
  simp only [Vc.adopt, List.getElem?_set] at hx
  by_cases hk : i = k
  · subst hk
    rw [if_pos rfl] at hx
    have hlt : i < st.slots.length := (List.getElem?_eq_some_iff.1 hi).1
    rw [if_pos hlt] at hx
    cases hx
    have := hS.slots i _ v hi hv
    simp only [RV, RC] at this
    subst this
    exact ⟨by simp [setH], by simp [setH, isSl]⟩
  · rw [if_neg hk] at hx
    exact hS1.slots k x v hx hv
theorem AWP.freeze {c : Code} {Q : Exit → ASt → Prop} {st : ASt} (o : Nat) (h : AWP P c Q (st.freeze o)) : AWP P c Q st := fun F hs a w hS => h F hs a w (hS.freeze o)

/-! ### Functions -/
/-- what a function does -/
def ACall (P : Program) (f : FuncId) (args : List AV) (objs : List AObj) (K : AV → List AObj → Prop) : Prop :=
  ∀ (X : Nat → Prop) (hs : Nat → Value) (w : World) (vals : Array Value), (∀ b, X b → b < w.heap.size ∧ ¬ own objs hs b) → Good w (fun b => own objs hs b ∨ X b) objs hs →
    (∀ o, objs.length ≤ o → hs o = .nilFunc) → vals.size = args.length → (∀ (i : Nat) (x : AV) (v : Value), args[i]? = some x → vals[i]? = some v → RV w (fun b => own objs hs b ∨ X b) hs x v) →
    CallS P f vals w fun e w' => match e with
      | .returned v => ∃ r objs' hs', K r objs' ∧ RV w' (fun b => own objs' hs' b ∨ X b) hs' r v ∧ Good w' (fun b => own objs' hs' b ∨ X b) objs' hs' ∧ Keep (own objs hs) w w' ∧
          (∀ b, own objs' hs' b → own objs hs b ∨ w.heap.size ≤ b) ∧ (∀ o, o < objs.length → hs' o = hs o) ∧ (∀ o, objs'.length ≤ o → hs' o = .nilFunc) ∧ objs.length ≤ objs'.length
      | .panicked _ => False
      | .outgrown => False

theorem CallS.mono {f : FuncId} {vals : Array Value} {w : World} {R R' : Ending → World → Prop} (h : CallS P f vals w R) (hr : ∀ e w', R e w' → R' e w') : CallS P f vals w R' := by
  rcases h with ⟨h1, h2⟩ | ⟨v, w', h1, h2⟩
  · exact .inl ⟨h1, h2.mono hr⟩
  · exact .inr ⟨v, w', h1, hr _ _ h2⟩

theorem ACall.mono {f : FuncId} {args : List AV} {objs : List AObj} {K K' : AV → List AObj → Prop} (h : ACall P f args objs K) (hk : ∀ r o, K r o → K' r o) : ACall P f args objs K' :=
  fun X hs w vals h1 h2 h3 h4 h5 => (h X hs w vals h1 h2 h3 h4 h5).mono fun e w' hR => by
    cases e with
    | returned v => obtain ⟨r, o, hs', hK, r'⟩ := hR; exact ⟨r, o, hs', hk _ _ hK, r'⟩
    | panicked c => exact hR
    | outgrown => exact hR

/-- references told by new numbers -/
def AC.ren (f : Nat → Option Nat) : AC → AC
  | .ptr o j => match f o with | some p => .ptr p j | none => .junk
  | .sl o => match f o with | some p => .sl p | none => .junk
  | .sub o s lo n => match f o with | some p => .sub p s lo n | none => .junk
  | .el o s i j => match f o with | some p => .el p s i j | none => .junk
  | .xr o r => match f o with | some p => .xr p r | none => .junk
  | .fn g caps => match renCaps f caps with | some l => .fn g l | none => .junk
  | x => x
where renCaps (f : Nat → Option Nat) : List (Nat × Nat) → Option (List (Nat × Nat))
  | [] => some []
  | p :: ps => match f p.1 with
    | some q => match renCaps f ps with
      | some l => some ((q, p.2) :: l)
      | none => none
    | none => none

theorem renCaps_spec {f : Nat → Option Nat} : ∀ {caps l : List (Nat × Nat)}, AC.ren.renCaps f caps = some l → l.length = caps.length ∧ ∀ (i : Nat) (q : Nat × Nat), l[i]? = some q → ∃ p, caps[i]? = some p ∧ f p.1 = some q.1 ∧ p.2 = q.2
  | [], l, h => by
    simp only [AC.ren.renCaps, Option.some.injEq] at h
    subst h
    exact ⟨rfl, fun i q hq => by simp at hq⟩
  | p :: ps, l, h => by
    simp only [AC.ren.renCaps] at h
    cases hp : f p.1 with
    | none => rw [hp] at h; cases h
    | some q =>
      cases hps : AC.ren.renCaps f ps with
      | none => rw [hp, hps] at h; cases h
      | some l' =>
        rw [hp, hps] at h
        simp only [Option.some.injEq] at h
        subst h
        obtain ⟨h1, h2⟩ := renCaps_spec hps
        refine ⟨by simp [h1], fun i r hr => ?_⟩
        cases i with
        | zero => simp at hr; subst hr; exact ⟨p, rfl, hp, rfl⟩
        | succ i => exact h2 i r (by simpa using hr)

theorem RC.ren {w : World} {O O' : Nat → Prop} {hs hs' : Nat → Value} {f : Nat → Option Nat} (hf : ∀ o p, f o = some p → hs' p = hs o) (hO : ∀ {d v}, RD w O d v → RD w O' d v) (hO' : ∀ b, b < w.heap.size → ¬ O b → ¬ O' b)
    {x : AC} {v : Value} (h : RC w O hs x v) : RC w O' hs' (x.ren f) v := by
  cases x <;> simp only [AC.ren] <;> try exact h
  case rd => exact hO h
  case md => exact hO h
  case re ds =>
    obtain ⟨b, off, e, hb, hn, hd⟩ := h
    exact ⟨b, off, e, hb, hO' b hb hn, fun j d hj => by
      obtain ⟨cv, h1, h2⟩ := hd j d hj
      exact ⟨cv, h1, hO h2⟩⟩
  case ptr o j =>
    cases ho : f o with
    | none => exact trivial
    | some p => obtain ⟨b, e1, e2⟩ := h; exact ⟨b, by rw [hf o p ho, e1], e2⟩
  case sl o =>
    cases ho : f o with
    | none => exact trivial
    | some p => simp only [RC]; rw [hf o p ho]; exact h
  case sub o s lo n =>
    cases ho : f o with
    | none => exact trivial
    | some p => simp only [RC]; rw [hf o p ho]; exact h
  case el o s i j =>
    cases ho : f o with
    | none => exact trivial
    | some p => simp only [RC]; rw [hf o p ho]; exact h
  case xr o r =>
    cases ho : f o with
    | none => exact trivial
    | some p => simp only [RC]; rw [hf o p ho]; exact h
  case fn g caps =>
    cases hc : AC.ren.renCaps f caps with
    | none => exact trivial
    | some l =>
      obtain ⟨arr, e, hl, hcc⟩ := h
      obtain ⟨h1, h2⟩ := renCaps_spec hc
      refine ⟨arr, e, by rw [hl, h1], fun i q hq => ?_⟩
      obtain ⟨p, hp, hfp, hpq⟩ := h2 i q hq
      obtain ⟨b, e1, e2⟩ := hcc i p hp
      exact ⟨b, by rw [hf _ _ hfp, e1], by rw [e2, hpq]⟩

/-- the place of a number in a list -/
def findIx (o : Nat) : List Nat → Nat → Option Nat
  | [], _ => none
  | p :: ps, k => bif p == o then some k else findIx o ps (k + 1)
theorem findIx_spec {o : Nat} : ∀ {l : List Nat} {k p : Nat}, findIx o l k = some p → k ≤ p ∧ l[p - k]? = some o
  | [], k, p, h => by cases h
  | q :: l, k, p, h => by
    simp only [findIx] at h
    cases hq : (q == o) with
    | true =>
      rw [hq] at h
      simp only [cond_true, Option.some.injEq] at h
      subst h
      have : q = o := by simpa using hq
      simp [this]
    | false =>
      rw [hq] at h
      obtain ⟨h1, h2⟩ := findIx_spec (l := l) h
      refine ⟨by omega, ?_⟩
      have : p - k = (p - (k + 1)) + 1 := by omega
      rw [this, List.getElem?_cons_succ]
      exact h2

def keepObjs (objs : List AObj) (keep : List Nat) : List AObj := keep.map fun o => (objs.getD o .gone).map (AC.ren fun p => findIx p keep 0)

/-- what a function gives, out of its last state -/
def resOf (T : Tab) (st : ASt) : List ResultVar → Prop × List AV
  | [] => (True, [])
  | .tmp t :: rs => ((st.eval (.tmp t)).need true ∧ (resOf T st rs).1, (st.eval (.tmp t)).strip :: (resOf T st rs).2)
  | .cell p t :: rs => ((st.eval (.tmp p)).need true ∧ (qload T st t (st.eval (.tmp p)).ac).1 ∧ (resOf T st rs).1, (qload T st t (st.eval (.tmp p)).ac).2 :: (resOf T st rs).2)
def compOf : AV → Bool × List AC
  | .c x => (false, [x])
  | .agg cs => (true, cs)
  | _ => (false, [])
def tupOf : List AV → AV
  | [x] => x
  | xs => .tup (xs.map compOf)

/-- a function's end: the results, and the objects that are kept -/
def RetOK (T : Tab) (rs : List ResultVar) (K : AV → List AObj → Prop) (st : ASt) : Prop :=
  (resOf T st rs).1 ∧ ∃ keep : List Nat, keep.take st.n0 = List.range st.n0 ∧ st.n0 ≤ keep.length ∧ keep.Nodup ∧
    K ((tupOf (resOf T st rs).2).map (AC.ren fun p => findIx p keep 0)) (keepObjs st.objs keep)
end
end Go.Vc
