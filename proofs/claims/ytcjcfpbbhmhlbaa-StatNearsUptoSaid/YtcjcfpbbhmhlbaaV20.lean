/- Operations that only look answer alike in every later world. -/
import Derived.Test.YtcjcfpbbhmhlbaaV19
import Derived.Deep.Quiet
set_option linter.unusedVariables false
set_option linter.unusedSimpArgs false
namespace Go.Vc
/-- what it answers, it answers in every world -/
def Alike {α : Type} (x : Sem α) : Prop := ∀ (P : Program) (w : World) (v : α) (w1 : World), x.run P w = .ok v w1 → ∀ w', x.run P w' = .ok v w'
def Never {α : Type} (x : Sem α) : Prop := ∀ (P : Program) (w : World) (v : α) (w1 : World), x.run P w ≠ .ok v w1
theorem Never.alike {α : Type} {x : Sem α} (h : Never x) : Alike x := fun P w v w1 e => absurd e (h P w v w1)
theorem Never.bind {α β : Type} {x : Sem α} {f : α → Sem β} (h : ∀ a, Never (f a)) : Never (x >>= f) := fun P w v w1 e => by
  rw [Sem.run_bind] at e
  cases hx : x.run P w with
  | halt a b => rw [hx] at e; cases e
  | ok a w2 => rw [hx] at e; exact h a P w2 v w1 e
theorem Alike.bind {α β : Type} {x : Sem α} {f : α → Sem β} (hx : Alike x) (hf : ∀ a, Alike (f a)) : Alike (x >>= f) := fun P w v w1 e w' => by
  rw [Sem.run_bind] at e ⊢
  cases h : x.run P w with
  | halt a b => rw [h] at e; cases e
  | ok a w2 =>
    rw [h] at e
    rw [hx P w a w2 h w']
    exact hf a P w2 v w1 e w'
theorem Alike.pure {α : Type} (a : α) : Alike (Pure.pure a : Sem α) := fun P w v w1 e w' => by
  simp only [Sem.run_pure, Result.ok.injEq] at e ⊢
  exact ⟨e.1, trivial⟩
theorem Never.stuck {α : Type} (s : String) : Never (Go.stuck s : Sem α) := fun P w v w1 e => by cases e
theorem Never.unsupported {α : Type} (u : Unsupported) : Never (Go.unsupported u : Sem α) := fun P w v w1 e => by cases e
theorem Alike.program : Alike Go.program := fun P w v w1 e w' => by
  have : (Go.program).run P w = .ok P w := rfl
  rw [this] at e
  cases e
  rfl
theorem Never.goPanic {α : Type} (v : Value) : Never (Go.goPanic v : Sem α) := fun P w u w1 e => by cases e
theorem Never.bounds {α : Type} (k : IntKind) (x y : Int) (c : BoundsCode) : Never (Go.boundsPanic k x y c : Sem α) := by
  have h : ∀ (a b : Int) (s : Bool) (c : BoundsCode), Never (Go.runtimePanic (.bounds a b s c) : Sem α) := fun a b s c => Never.bind fun p => Never.goPanic _
  unfold Go.boundsPanic
  dsimp only
  split <;> exact Never.bind fun s => h _ _ _ _
theorem Alike.typeInfo (t : TypeId) : Alike (Go.typeInfo t) := by
  unfold Go.typeInfo
  refine Alike.bind Alike.program fun p => ?_
  split <;> first | exact Alike.pure _ | exact (Never.stuck _).alike
theorem Alike.underlying (t : TypeId) : Alike (Go.underlying t) := by
  unfold Go.underlying
  refine Alike.bind Alike.program fun p => ?_
  split <;> first | exact Alike.pure _ | exact (Never.stuck _).alike
theorem Alike.sizeOf (t : TypeId) : Alike (Go.sizeOf t) := Alike.bind (Alike.typeInfo t) fun i => Alike.pure _
theorem Alike.isAgg (t : TypeId) : Alike (Go.isAgg t) := by
  unfold Go.isAgg
  refine Alike.bind (Alike.underlying t) fun i => ?_
  split <;> exact Alike.pure _
theorem Alike.sure (v : Value) : Alike (Instr.sureAddr v) := by
  unfold Instr.sureAddr
  split <;> first | exact Alike.pure _ | exact (Never.stuck _).alike
theorem Alike.int (v : Value) : Alike (Go.asIntOf v) := by
  unfold Go.asIntOf
  split <;> first | exact Alike.pure _ | exact (Never.stuck _).alike | exact (Never.unsupported _).alike
theorem Alike.agg (v : Value) : Alike (Go.asAgg v) := by
  unfold Go.asAgg
  split <;> first | exact Alike.pure _ | exact (Never.stuck _).alike
theorem Alike.bool (v : Value) : Alike (Go.asBool v) := by
  unfold Go.asBool
  split <;> first | exact Alike.pure _ | exact (Never.stuck _).alike
theorem Alike.part (t : TypeId) (cs : Array Value) (o : Nat) : Alike (Go.part t cs o) := by
  unfold Go.part
  refine Alike.bind (Alike.isAgg t) fun b => ?_
  split
  · exact Alike.bind (Alike.sizeOf t) fun _ => Alike.pure _
  · split <;> first | exact Alike.pure _ | exact (Never.stuck _).alike
theorem Alike.indexAt (t : TypeId) (x i : Value) : Alike (Instr.indexAt t x i) := by
  unfold Instr.indexAt
  refine Alike.bind (Alike.int _) fun p => ?_
  split
  refine Alike.bind (Alike.underlying _) fun d => ?_
  have jp : ∀ (y : Option Addr × Nat × TypeId) (k : IntKind) (i : Int), Alike (match y with
        | (base, len, elem) => do
          let __do_lift ← Go.underlying t
          have tiny : Bool :=
            decide (len ≤ 1) &&
              match __do_lift with
              | TypeDesc.array len elem => true
              | x => false
          match base with
            | some a =>
              if 0 ≤ i ∧ i < ↑len then do
                let __do_lift ← Go.sizeOf elem
                Pure.pure (Value.pointer (some (a.add (i.toNat * __do_lift))))
              else
                if tiny = true then
                  Go.unsupported
                    (Unsupported.noEntry "op/indexAddr.an index out of range at an array of length 0 or 1 (ledger 616)")
                else boundsPanic k i (↑len) BoundsCode.index
            | none => boundsPanic k i 0 BoundsCode.index : Sem Value) := fun y k i => by
    split
    refine Alike.bind (Alike.underlying _) fun d => ?_
    dsimp only
    (repeat' split) <;> first | exact Alike.bind (Alike.sizeOf _) fun _ => Alike.pure _ | exact (Never.unsupported _).alike | exact (Never.bounds _ _ _ _).alike
  dsimp only
  split
  · exact Alike.bind (Alike.sure _) fun a => Alike.bind (Alike.pure _) fun y => jp y _ _
  · exact Alike.bind (Alike.pure _) fun y => jp y _ _
  · exact Alike.bind (Never.stuck _).alike fun y => jp y _ _
theorem Alike.field (t : TypeId) (x : Value) (f : Nat) : Alike (Instr.field t x f) := by
  unfold Instr.field
  refine Alike.bind (Alike.underlying _) fun d => ?_
  (repeat' split) <;> first | exact Alike.bind (Alike.agg _) fun cs => Alike.part _ _ _ | exact (Never.stuck _).alike
theorem Alike.index (t : TypeId) (x i : Value) : Alike (Instr.index t x i) := by
  unfold Instr.index
  refine Alike.bind (Alike.int _) fun p => ?_
  split
  refine Alike.bind (Alike.underlying _) fun d => ?_
  (repeat' split) <;> first | exact Alike.bind (Alike.sizeOf _) fun _ => Alike.part _ _ _ | exact Alike.pure _ | exact (Never.stuck _).alike | exact (Never.bounds _ _ _ _).alike
theorem Alike.bound (x : Value) (y : Nat) (c : BoundsCode) : Alike (Instr.sliceBound x y c) := by
  unfold Instr.sliceBound
  refine Alike.bind (Alike.int _) fun p => ?_
  (repeat' split) <;> first | exact Alike.pure _ | exact (Never.bounds _ _ _ _).alike
theorem Alike.bounds (b : Bool) (len cap : Nat) (lo hi mx : Option Value) : Alike (Instr.sliceBounds b len cap lo hi mx) := by
  unfold Instr.sliceBounds
  dsimp only
  have h1 : ∀ (m h : Nat) (lo : Option Value) (b : Bool), Alike (match lo with
      | some v => do
        let l ← Instr.sliceBound v h (if b = true then BoundsCode.slice3C else BoundsCode.sliceB)
        Pure.pure (l, h, m)
      | none => do
        let l ← Pure.pure 0
        Pure.pure (l, h, m) : Sem (Nat × Nat × Nat)) := fun m h lo b => by
    split
    · exact Alike.bind (Alike.bound _ _ _) fun _ => Alike.pure _
    · exact Alike.bind (Alike.pure _) fun _ => Alike.pure _
  have h2 : ∀ m : Nat, Alike (match hi, mx with
    | some v, some val => do
      let h ← Instr.sliceBound v m BoundsCode.slice3B
      match lo with
      | some v => do
        let l ← Instr.sliceBound v h (if mx.isSome = true then BoundsCode.slice3C else BoundsCode.sliceB)
        Pure.pure (l, h, m)
      | none => do
        let l ← Pure.pure 0
        Pure.pure (l, h, m)
    | some v, none => do
      let h ← Instr.sliceBound v m (if b = true then BoundsCode.sliceAcap else BoundsCode.sliceAlen)
      match lo with
      | some v => do
        let l ← Instr.sliceBound v h (if mx.isSome = true then BoundsCode.slice3C else BoundsCode.sliceB)
        Pure.pure (l, h, m)
      | none => do
        let l ← Pure.pure 0
        Pure.pure (l, h, m)
    | none, none => do
      let h ← Pure.pure len
      match lo with
      | some v => do
        let l ← Instr.sliceBound v h (if mx.isSome = true then BoundsCode.slice3C else BoundsCode.sliceB)
        Pure.pure (l, h, m)
      | none => do
        let l ← Pure.pure 0
        Pure.pure (l, h, m)
    | none, some val => do
      let h ← Go.stuck "Slice: max without high"
      match lo with
      | some v => do
        let l ← Instr.sliceBound v h (if mx.isSome = true then BoundsCode.slice3C else BoundsCode.sliceB)
        Pure.pure (l, h, m)
      | none => do
        let l ← Pure.pure 0
        Pure.pure (l, h, m) : Sem (Nat × Nat × Nat)) := fun m => by
    (repeat' split) <;> first
      | exact Alike.bind (Alike.bound _ _ _) fun _ => Alike.bind (Alike.bound _ _ _) fun _ => Alike.pure _
      | exact Alike.bind (Alike.bound _ _ _) fun _ => Alike.bind (Alike.pure _) fun _ => Alike.pure _
      | exact Alike.bind (Alike.pure _) fun _ => Alike.bind (Alike.bound _ _ _) fun _ => Alike.pure _
      | exact Alike.bind (Alike.pure _) fun _ => Alike.bind (Alike.pure _) fun _ => Alike.pure _
      | exact Alike.bind (Never.stuck _).alike fun _ => Alike.bind (Alike.bound _ _ _) fun _ => Alike.pure _
      | exact Alike.bind (Never.stuck _).alike fun _ => Alike.bind (Alike.pure _) fun _ => Alike.pure _
  split
  · exact Alike.bind (Alike.bound _ _ _) fun _ => h2 _
  · exact Alike.bind (Alike.pure _) fun _ => h2 _
theorem Alike.addr (v : Value) : Alike (Go.asAddr v) := by
  unfold Go.asAddr
  split <;> first | exact Alike.pure _ | exact (Never.stuck _).alike | exact Never.alike (Never.bind fun _ => Never.goPanic _)
theorem Alike.slice (t : TypeId) (x : Value) (lo hi mx : Option Value) : Alike (Instr.slice t x lo hi mx) := by
  unfold Instr.slice
  refine Alike.bind (Alike.underlying _) fun d => ?_
  dsimp only
  split
  · split
    · exact Alike.bind (Never.stuck _).alike fun _ => Alike.bind (Alike.bounds _ _ _ _ _ _) fun _ => Alike.pure _
    · exact Alike.bind (Alike.bounds _ _ _ _ _ _) fun _ => Alike.pure _
  · exact Alike.bind (Alike.bounds _ _ _ _ _ _) fun _ => Alike.bind (Alike.sizeOf _) fun _ => Alike.pure _
  · refine Alike.bind (Alike.addr _) fun _ => Alike.bind (Alike.underlying _) fun _ => ?_
    split
    · exact Alike.bind (Alike.bounds _ _ _ _ _ _) fun _ => Alike.bind (Alike.sizeOf _) fun _ => Alike.pure _
    · exact (Never.stuck _).alike
  · exact (Never.stuck _).alike
theorem Alike.sliceAt (t : TypeId) (x : Value) (lo hi mx : Option Value) : Alike (Instr.sliceAt t x lo hi mx) := by
  unfold Instr.sliceAt
  refine Alike.bind (Alike.underlying _) fun d => ?_
  split
  · exact Alike.bind (Alike.sure _) fun _ => Alike.bind (Alike.bounds _ _ _ _ _ _) fun _ => Alike.bind (Alike.sizeOf _) fun _ => Alike.pure _
  · exact Alike.slice _ _ _ _ _
theorem Alike.extract (x : Value) (i : Nat) : Alike (Instr.extract x i) := by
  unfold Instr.extract
  (repeat' split) <;> first | exact Alike.pure _ | exact (Never.stuck _).alike
theorem Alike.zeroValue (t : TypeId) : Alike (Go.zeroValue t) := by
  unfold Go.zeroValue
  refine Alike.bind (Alike.typeInfo _) fun i => ?_
  split <;> first | exact Alike.pure _ | exact (Never.unsupported _).alike
theorem Alike.mapM {α β : Type} (f : α → Sem β) (hf : ∀ a, Alike (f a)) : ∀ l : List α, Alike (l.mapM f)
  | [] => by simp only [List.mapM_nil]; exact Alike.pure _
  | a :: l => by
    rw [List.mapM_cons]
    exact Alike.bind (hf a) fun b => Alike.bind (Alike.mapM f hf l) fun bs => Alike.pure _
theorem Alike.map {α β : Type} {x : Sem α} (f : α → β) (hx : Alike x) : Alike (f <$> x) := fun P w v w1 e w' => by
  rw [Sem.run_map] at e ⊢
  cases h : x.run P w with
  | halt a b => rw [h] at e; cases e
  | ok a w2 =>
    rw [h] at e
    rw [hx P w a w2 h w']
    cases e
    rfl
theorem Alike.build (t : TypeId) (ps : Array (Nat × Value)) : Alike (Instr.build t ps) := by
  unfold Instr.build
  refine Alike.bind (Alike.zeroValue _) fun z => ?_
  dsimp only
  refine Alike.bind (Alike.underlying _) fun d => ?_
  split
  · refine Alike.bind ?_ fun _ => ?_
    · rw [Array.mapM_eq_mapM_toList]
      exact Alike.map _ (Alike.mapM _ (fun a => Alike.bind (Alike.sizeOf _) fun _ => Alike.pure _) _)
    · split <;> first | exact Alike.pure _ | exact (Never.stuck _).alike
  · refine Alike.bind (Alike.sizeOf _) fun _ => ?_
    split <;> first | exact Alike.pure _ | exact (Never.stuck _).alike
  · exact (Never.stuck _).alike

theorem RC.plainVal {w : World} {O : Nat → Prop} {hs : Nat → Value} {x : AC} {v : Value} (hp : x.plain = true) (h : RC w O hs x v) : v = x.val := by
  cases x <;> first | exact h | cases hp
theorem qbin_plain {T : Tab} {t : TypeId} {op : BinOp} {x y : AC} (h : (qbin T t op x y).1) : (qbin T t op x y).2.plain = true := by
  unfold qbin at h ⊢
  cases x <;> simp only at h ⊢ <;> try exact h.elim
  · cases y <;> simp only at h ⊢ <;> try exact h.elim
    cases op <;> first | rfl | exact h.elim
  · cases y <;> simp only at h ⊢ <;> try exact h.elim
    cases hsh : (T t).sh <;> simp only [hsh] at h ⊢ <;> try exact h.elim
    cases op <;> first | rfl | exact h.elim
  · cases y <;> simp only at h ⊢ <;> try exact h.elim
    cases op <;> first | rfl | exact h.elim
theorem qun_plain {op : UnOp} {x : AC} (h : (qun op x).1) : (qun op x).2.plain = true := by
  unfold qun at h ⊢
  cases op <;> simp only at h ⊢ <;> try exact h.elim
  all_goals (cases x <;> simp only at h ⊢ <;> first | rfl | exact h.elim)
theorem qconvert_plain {T : Tab} {s t : TypeId} {x : AC} (h : (qconvert T s t x).1) : (qconvert T s t x).2.plain = true := by
  unfold qconvert at h ⊢
  cases h1 : (T s).sh <;> simp only [h1] at h ⊢ <;> try exact h.elim
  all_goals (cases h2 : (T t).sh <;> simp only [h2] at h ⊢ <;> try exact h.elim)
  all_goals (cases x <;> simp only at h ⊢ <;> first | rfl | exact h.elim)
theorem qlen_plain {st : ASt} {x : AC} (h : (qlen st x).1) : (qlen st x).2.plain = true := by
  unfold qlen at h ⊢
  cases x <;> simp only at h ⊢ <;> first | rfl | exact h.elim | (cases hob : st.obj _ <;> simp only [hob] at h ⊢ <;> first | rfl | exact h.elim | skip)
  rename_i o r xo
  cases xo <;> simp only at h ⊢ <;> try exact h.elim
  cases r <;> simp only at h ⊢ <;> first | rfl | exact h.elim
theorem qmax_plain {x y : AC} (h : (qmax x y).1) : (qmax x y).2.plain = true := by
  unfold qmax at h ⊢
  cases x <;> simp only at h ⊢ <;> try exact h.elim
  cases y <;> simp only at h ⊢ <;> first | rfl | exact h.elim
theorem qmin_plain {x y : AC} (h : (qmin x y).1) : (qmin x y).2.plain = true := by
  unfold qmin at h ⊢
  cases x <;> simp only at h ⊢ <;> try exact h.elim
  cases y <;> simp only at h ⊢ <;> first | rfl | exact h.elim

section
variable {P : Program} {T : Tab} {F : Fr} {st : ASt} {hs : Nat → Value} {a : Act} {w : World}
def Same (w w' : World) : Prop := ∀ c, c < w.heap.size → w'.heap[c]? = w.heap[c]?

theorem Sim.same (h : Sim F st hs a w) {w' : World} (hk : Keep (fun _ => False) w w') : Sim F st hs a w' := by
  have hs' : Same w w' := fun c hc => hk.block c hc fun e => e
  refine h.step ⟨hk.os, hk.tape, hk.output, hk.size, fun b hb _ => hs' b hb⟩ fun o ob ho => ?_
  exact RO.mono hk.size (fun b hb hO => ⟨hs' b hb, hO⟩) (h.good.rel o ob ho) fun b hb => hs' b ((h.good.rel o ob ho).foot_lt hb)

/-- a load of own memory -/
def ownLoad (st : ASt) : Op → Bool
  | .load _ a => match (st.eval a).ac with
    | .re _ => false
    | _ => true
  | .lookup .. => true
  | .entry _ => true
  | .call { callee := .builtin _, args, .. } => match args.toList with
    | [x] => match (st.eval x).ac with
      | .xr _ r => match r with
        | .self => true
        | _ => false
      | .md .. => true
      | _ => false
    | _ => false
  | _ => false
theorem RD_slice {O : Nat → Prop} {size : Nat} {α : Type} {z : α} {enc : α → List DV} {xs : List α} {v : Value} (h : RD w O (.list size α z enc xs) v) : ∃ A n c, v = .slice A n c := by
  cases h <;> exact ⟨_, _, _, rfl⟩
theorem plain_flat {x : AC} (h : x.plain = true) : x.flat := by cases x <;> first | exact trivial | cases h
theorem qbin_flat {t : TypeId} {op : BinOp} {x y : AC} (h : (qbin T t op x y).1) : x.flat ∧ y.flat := by
  unfold qbin at h
  cases x <;> simp only at h <;> try exact h.elim
  all_goals (cases y <;> simp only at h <;> try exact h.elim)
  all_goals exact ⟨trivial, trivial⟩

/-- an operation that only looks, and not at own memory, gives the same value in every later world -/
theorem qop_same (hT : TabOK P T) (h : Sim F st hs a w) {o : Oper} (hq : (qop T st true o).1) (hi : isQuiet T o.op = true) (hown : ownLoad st o.op = false) {v : Value} (hv : (execOp a.eval o).run P w = .ok (.value v) w)
    {w' : World} (hk : Keep (own st.objs hs) w w') : (execOp a.eval o).run P w' = .ok (.value v) w' := by
  have lift : ∀ {s : Sem Value}, execOp a.eval o = (do pure (.value (← s)) : Sem Next) → Alike s → (execOp a.eval o).run P w' = .ok (.value v) w' := fun e hs => by
    rw [e] at hv ⊢
    exact (Alike.bind hs fun u => Alike.pure _) P w _ w hv w'
  have two : ∀ {s : Sem Value} {x : AC}, execOp a.eval o = (do pure (.value (← s)) : Sem Next) → x.plain = true → (∃ u, s.run P w = .ok u w ∧ RC w (avoid F st.objs hs) hs x u) → (∃ u, s.run P w' = .ok u w' ∧ RC w' (avoid F st.objs hs) hs x u) →
      (execOp a.eval o).run P w' = .ok (.value v) w' := by
    rintro s x e hp ⟨u1, e1, r1⟩ ⟨u2, e2, r2⟩
    have f1 : u1 = x.val := RC.plainVal hp r1
    have f2 : u2 = x.val := RC.plainVal hp r2
    rw [e, Sem.run_bind, e1] at hv
    simp only [Result.andThen_ok, Sem.run_pure, Result.ok.injEq, Next.value.injEq, and_true] at hv
    rw [e, Sem.run_bind, e2, f2, ← hv, f1]
    rfl
  obtain ⟨dst, op, ty, pos, after, guard⟩ := o
  cases op <;> simp only [isQuiet] at hi <;> try (first | cases hi; done | skip)
  case move x => exact (Alike.pure _) P w _ w hv w'
  case assign x => exact (Alike.pure _) P w _ w hv w'
  case pick c x y => exact (Alike.bind (Alike.bool _) fun b => Alike.pure _) P w _ w hv w'
  case binOp op t x y yt =>
    simp only [qop] at hq
    obtain ⟨f1, f2⟩ := qbin_flat hq.2.2
    exact two rfl (qbin_plain hq.2.2) (qbin_sound hT (h.ac rfl hq.1) (h.ac rfl hq.2.1) hq.2.2 x y) (qbin_sound hT ((h.ac rfl hq.1).flat f1) ((h.ac rfl hq.2.1).flat f2) hq.2.2 x y)
  case unOp op t x =>
    simp only [qop] at hq
    refine lift rfl ?_
    obtain ⟨h1, h2⟩ := hq
    have hx := h.ac rfl h1
    unfold qun at h2
    cases op <;> simp only at h2 <;> try exact h2.elim
    all_goals (cases hc : (st.eval x).ac <;> simp only [hc] at h2 hx <;> first | exact h2.elim | (rw [hx]; exact Alike.pure _))
  case convert s t x =>
    simp only [qop] at hq
    have hf : (st.eval x).ac.flat := by
      have h2 := hq.2
      unfold qconvert at h2
      cases h1 : (T s).sh <;> simp only [h1] at h2 <;> try exact h2.elim
      all_goals (cases h3 : (T t).sh <;> simp only [h3] at h2 <;> try exact h2.elim)
      all_goals (cases hc : (st.eval x).ac <;> simp only [hc] at h2 <;> first | exact trivial | exact h2.elim)
    exact two rfl (qconvert_plain hq.2) (qconvert_sound hT (h.ac rfl hq.1) hq.2) (qconvert_sound hT ((h.ac rfl hq.1).flat hf) hq.2)
  case indexAddr t x i => exact lift rfl (Alike.indexAt _ _ _)
  case field t x f => exact lift rfl (Alike.field _ _ _)
  case index t x i => exact lift rfl (Alike.index _ _ _)
  case slice t x lo hi mx => exact lift rfl (Alike.sliceAt _ _ _ _ _)
  case extract x i => exact lift rfl (Alike.extract _ _)
  case build t ps => exact lift rfl (Alike.build _ _)
  case makeFunc f first caps => exact lift rfl (Alike.pure _)
  case fieldAddr s x f =>
    simp only [qop] at hq
    have hx := h.ac (x := x) rfl hq.1
    have hp : ∃ b off, a.eval x = .pointer (some ⟨b, off, none⟩) := by
      have h2 := hq.2
      unfold qfieldAddr at h2
      cases hsh : (T s).sh <;> simp only [hsh] at h2 <;> try exact h2.elim
      rename_i fs
      cases hf : fs[f]? <;> simp only [hf] at h2 <;> try exact h2.elim
      cases hc : (st.eval x).ac <;> simp only [hc] at h2 hx <;> try exact h2.elim
      · obtain ⟨b, off, e, _⟩ := hx; exact ⟨b, off, e⟩
      · obtain ⟨b, _, e⟩ := hx; exact ⟨b, _, e⟩
      · obtain ⟨b, m, cap, _, e⟩ := hx; exact ⟨b, _, e⟩
      · rename_i o r
        cases r <;> simp only at h2 hx <;> try exact h2.elim
        obtain ⟨u, l, b, n, c, _, _, e⟩ := hx
        exact ⟨b, _, e⟩
    obtain ⟨b, off, e⟩ := hp
    have h2 := hq.2
    unfold qfieldAddr at h2
    cases hsh : (T s).sh <;> simp only [hsh] at h2 <;> try exact h2.elim
    rename_i fs
    cases hf : fs[f]? <;> simp only [hf] at h2 <;> try exact h2.elim
    rename_i p
    have hn : ¬ (T p.2).size = 0 := by
      cases hc : (st.eval x).ac <;> simp only [hc] at h2 <;> first | exact h2 | exact h2.elim | skip
      rename_i o r
      cases r <;> simp only at h2 <;> first | exact h2 | exact h2.elim
    have g1 := run_fieldAt (P := P) (w := w) hT hsh hf hn b off
    have g2 := run_fieldAt (P := P) (w := w') hT hsh hf hn b off
    simp only [execOp, e, Sem.run_bind, g1, Result.andThen_ok, Sem.run_pure, Result.ok.injEq, and_true] at hv
    simp only [execOp, e, Sem.run_bind, g2, Result.andThen_ok, Sem.run_pure, Result.ok.injEq, and_true]
    exact hv
  case load t x =>
    simp only [qop] at hq
    have hx := h.ac (x := x) rfl hq.1
    obtain ⟨u, b, hb, hlt, h1, _⟩ := qload_same (P := P) hT h.good (qload_sh hT hq.2) hx hq.2
    have hsame : w'.heap[b]? = w.heap[b]? := by
      simp only [ownLoad] at hown
      cases hc : (st.eval x).ac <;> simp only [hc] at hown hx <;> try (cases hown; done)
      obtain ⟨b2, off, e, _, hn, _⟩ := hx
      have : b2 = b := by rw [e] at hb; simpa [hblk] using hb
      subst this
      exact hk.block b2 hlt fun ho => hn (.inl ho)
    simp only [execOp, Sem.run_bind, h1 w rfl, Result.andThen_ok, Sem.run_pure, Result.ok.injEq, and_true] at hv
    simp only [execOp, Sem.run_bind, h1 w' hsame, Result.andThen_ok, Sem.run_pure, Result.ok.injEq, and_true]
    exact hv
  case lookup t m k ok => cases hown
  case entry x => cases hown
  case nilCheck x =>
    simp only [qop] at hq
    cases hc : (st.eval x).ac <;> simp only [hc] at hq <;> try exact hq.elim
    · have hx := h.ac (x := x) rfl hq
      rw [hc] at hx
      obtain ⟨b, _, e⟩ := hx
      simp only [execOp, e] at hv ⊢
      exact (Alike.pure _) P w _ w hv w'
    · have hx := h.ac (x := x) rfl hq
      rw [hc] at hx
      obtain ⟨arr, e, _⟩ := hx
      simp only [execOp, e] at hv ⊢
      exact (Alike.pure _) P w _ w hv w'
  case call c =>
    obtain ⟨callee, args, ats⟩ := c
    cases callee <;> simp only at hi <;> try (cases hi; done)
    rename_i b
    simp only [qop] at hq
    match hargs : args.toList, hq with
    | [], hq => simp only [hargs] at hq
    | [x], hq =>
      have hae : args = #[x] := by apply Array.ext'; simpa using hargs
      subst hae
      simp only [hargs] at hq
      cases b <;> simp only at hq <;> try exact hq.elim
      cases hats : ats.toList <;> simp only [hats] at hq <;> try exact hq.elim
      rename_i t ts
      have hat : ats[0]? = some t := by rw [← Array.getElem?_toList, hats]; rfl
      cases hsh : (T t).sh <;> simp only [hsh] at hq <;> try exact hq.elim
      rotate_right
      · exfalso
        have h2 := hq.2
        unfold qmlen at h2
        simp only [ownLoad] at hown
        cases hc : (st.eval x).ac <;> simp only [hc] at h2 hown <;> try (first | exact h2 | cases hown; done)
        rename_i o r
        cases r <;> simp only at h2 hown <;> first | exact h2 | cases hown
      · cases hc : (st.eval x).ac <;> simp only [hc] at hq <;> try exact hq.elim
        have hx := h.ac (x := x) rfl hq
        rw [hc] at hx
        have hx' : a.eval x = .string _ := hx
        have hu : P.underlying t = some .string := hT.sh hsh (by simp)
        simp [execOp, resolve, invoke, builtin, Builtin.len_, hat, hx', run_underlying hu, goInt] at hv ⊢
        exact hv
      · rename_i el
        have hu : P.underlying t = some (.slice el) := hT.sh hsh (by simp)
        have hx := h.ac (x := x) rfl hq.1
        have hsl : ∃ A n c, a.eval x = .slice A n c := by
          have h2 := hq.2
          unfold qlen at h2
          cases hc : (st.eval x).ac <;> simp only [hc] at h2 hx <;> try exact h2.elim
          · exact ⟨_, _, _, hx⟩
          · exact RD_slice hx
          · obtain ⟨e, hs2⟩ := hx
            cases hv2 : hs _ <;> rw [hv2] at hs2 e <;> first | exact ⟨_, _, _, e⟩ | cases hs2
          · rcases hx with ⟨_, A, cap, e, _⟩ | ⟨_, b, m, cap, c, _, e, _⟩
            · exact ⟨_, _, _, e⟩
            · exact ⟨_, _, _, e⟩
          · rename_i o r
            have sl : ∀ v : Value, isSl v = true → ∃ A n c, v = .slice A n c := fun v hv => by cases v <;> first | exact ⟨_, _, _, rfl⟩ | cases hv
            cases hob : st.obj o <;> simp only [hob] at h2 <;> try exact h2.elim
            rename_i xo
            cases xo <;> simp only at h2 <;> try exact h2.elim
            cases r <;> simp only at h2 <;> try exact h2.elim
            · obtain ⟨l, _, e⟩ := hx; exact sl _ e
            · obtain ⟨u, l, _, _, e⟩ := hx; exact sl _ e
        obtain ⟨A, n, c, e⟩ := hsl
        simp [execOp, resolve, invoke, builtin, Builtin.len_, hat, e, run_underlying hu, goInt] at hv ⊢
        exact hv
    | [x, y], hq =>
      have hae : args = #[x, y] := by apply Array.ext'; simpa using hargs
      subst hae
      simp only [hargs] at hq
      cases b <;> simp only at hq <;> try exact hq.elim
      · obtain ⟨h1, h2, h3⟩ := hq
        have hx := h.ac rfl h1
        have hy := h.ac rfl h2
        unfold qmax at h3
        cases hcx : (st.eval x).ac <;> simp only [hcx] at h3 hx <;> try exact h3.elim
        cases hcy : (st.eval y).ac <;> simp only [hcy] at h3 hy <;> try exact h3.elim
        simp only [RC] at hx hy
        simp [execOp, resolve, invoke, builtin, Builtin.max_, hx, hy, Builtin.max2] at hv ⊢
        exact hv
      · obtain ⟨h1, h2, h3⟩ := hq
        have hx := h.ac rfl h1
        have hy := h.ac rfl h2
        unfold qmin at h3
        cases hcx : (st.eval x).ac <;> simp only [hcx] at h3 hx <;> try exact h3.elim
        cases hcy : (st.eval y).ac <;> simp only [hcy] at h3 hy <;> try exact h3.elim
        simp only [RC] at hx hy
        simp [execOp, resolve, invoke, builtin, Builtin.min_, hx, hy, Builtin.min2] at hv ⊢
        exact hv
    | [x, y, z], hq =>
      have hae : args = #[x, y, z] := by apply Array.ext'; simpa using hargs
      subst hae
      simp only [hargs] at hq
      cases b <;> simp only at hq <;> try exact hq.elim
      · obtain ⟨h1, h2, h2', h3, h4⟩ := hq
        have hx := h.ac rfl h1
        have hy := h.ac rfl h2
        have hz := h.ac rfl h2'
        unfold qmax at h3 h4
        cases hcx : (st.eval x).ac <;> simp only [hcx] at h3 h4 hx <;> try exact h3.elim
        cases hcy : (st.eval y).ac <;> simp only [hcy] at h3 h4 hy <;> try exact h3.elim
        cases hcz : (st.eval z).ac <;> simp only [hcz] at h4 hz <;> try exact h4.elim
        simp only [RC] at hx hy hz
        simp [execOp, resolve, invoke, builtin, Builtin.max_, hx, hy, hz, Builtin.max2] at hv ⊢
        exact hv
      · obtain ⟨h1, h2, h2', h3, h4⟩ := hq
        have hx := h.ac rfl h1
        have hy := h.ac rfl h2
        have hz := h.ac rfl h2'
        unfold qmin at h3 h4
        cases hcx : (st.eval x).ac <;> simp only [hcx] at h3 h4 hx <;> try exact h3.elim
        cases hcy : (st.eval y).ac <;> simp only [hcy] at h3 h4 hy <;> try exact h3.elim
        cases hcz : (st.eval z).ac <;> simp only [hcz] at h4 hz <;> try exact h4.elim
        simp only [RC] at hx hy hz
        simp [execOp, resolve, invoke, builtin, Builtin.min_, hx, hy, hz, Builtin.min2] at hv ⊢
        exact hv
    | _ :: _ :: _ :: _ :: _, hq => simp only [hargs] at hq
end
end Go.Vc
