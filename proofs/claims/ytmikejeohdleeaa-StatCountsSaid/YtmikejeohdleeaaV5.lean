/- All operations that only look, in one law. -/
import Derived.Test.YtmikejeohdleeaaV4
set_option linter.unusedVariables false
set_option linter.unusedSimpArgs false
namespace Go.Vc
section
variable {P : Program} {T : Tab} {w : World} {O : Nat → Prop} {hs : Nat → Value}

theorem RC.val {x : AC} (h : x.plain = true) : RC w O hs x x.val := by
  cases x <;> simp only [AC.plain] at h <;> try cases h
  all_goals rfl
theorem RCs_zero {cs : List AC} (h : (cs.all AC.plain) = true) : RCs w O hs cs (cs.map AC.val) :=
  ⟨by simp, fun i x v hx hv => by
    rw [List.getElem?_map, hx] at hv
    simp only [Option.map_some, Option.some.injEq] at hv
    subst hv
    exact RC.val (List.all_eq_true.1 h x (List.mem_of_getElem? hx))⟩

theorem run_zeroValue {t : TypeId} {z : Value} {j : TypeInfo} (h : P.info? t = some j) (hz : j.zero = some z) : (zeroValue t).run P w = .ok z w := by
  simp [zeroValue, typeInfo, h, hz]

theorem mapM_sizes (hT : TabOK P T) {fields : List Field} (h : ∀ f ∈ fields, (T f.type).sh ≠ .none) :
    (fields.mapM (m := Sem) fun f => do pure (f.offset, ← sizeOf f.type)).run P w = .ok (fields.map fun f => (f.offset, (T f.type).size)) w := by
  induction fields with
  | nil => rfl
  | cons f fs ih =>
    have h1 := (hT.of (h f (by simp))).sized
    simp only [List.mapM_cons, Sem.run_bind, run_sizeOf h1, Result.andThen_ok, Sem.run_pure, ih fun g hg => h g (by simp [hg])]
    rfl

theorem qbuild_sound (hT : TabOK P T) {t : TypeId} {ps : List (Nat × List AC)} {vs : Array (Nat × Value)} (hl : vs.toList.length = ps.length)
    (hp : ∀ (i : Nat) (p : Nat × List AC) (q : Nat × Value), ps[i]? = some p → vs.toList[i]? = some q → p.1 = q.1 ∧ RCs w O hs p.2 q.2.cells.toList) (h : (qbuild T t ps).1) :
    ∃ v, (Instr.build t vs).run P w = .ok v w ∧ RV w O hs (qbuild T t ps).2 v := by
  unfold qbuild at h ⊢
  cases hsh : (T t).sh <;> simp only [hsh] at h ⊢ <;> try exact h.elim
  case struct fs =>
    have hTt := hT.of (t := t) (by rw [hsh]; simp)
    obtain ⟨hn, h⟩ := h
    obtain ⟨j, z, hj, _, _, hz, hzc, _, hpl⟩ := hTt.info hn
    obtain ⟨fields, hu, hfs⟩ := hT.sh hsh (by simp)
    have hfn : ∀ f ∈ fields.toList, (T f.type).sh ≠ .none := fun f hf => hT.closed (t := t) (by rw [hsh]; simp) (by rw [hsh, ← hfs]; simp [Sh.subs]; exact ⟨f, by simpa using hf, rfl⟩)
    have hm := mapM_sizes (P := P) (w := w) hT hfn
    have hpl' : structPlace T fs = fun i => (fields.toList.map fun f => (f.offset, (T f.type).size))[i]? := by
      funext i
      simp only [structPlace, ← hfs, List.getElem?_map]
      cases fields.toList[i]? <;> rfl
    have hzr : RCs w O hs (T t).zero z.cells.toList := by rw [hzc]; exact RCs_zero hpl
    rw [hpl'] at h ⊢
    obtain ⟨arr', h1, h2⟩ := fill_sound ps vs.toList _ z.cells hzr hl hp h
    refine ⟨.agg arr', ?_, arr', rfl, h2⟩
    have hmA : (fields.mapM (m := Sem) fun f => do pure (f.offset, ← sizeOf f.type)).run P w = .ok (fields.toList.map fun f => (f.offset, (T f.type).size)).toArray w := by
      rw [Array.mapM_eq_mapM_toList]
      rw [Sem.run_map, hm]
      rfl
    have h1' : Instr.fill (fun x => (List.map (fun f => (f.offset, (T f.type).size)) fields.toList).toArray[x]?) z.cells vs.toList = some arr' := by
      rw [← h1]; congr 1; funext i; simp
    simp only [Instr.build, Sem.run_bind, run_zeroValue hj hz, Result.andThen_ok, run_underlying hu, hmA, h1', Sem.run_pure]
  case array n e =>
    have hTt := hT.of (t := t) (by rw [hsh]; simp)
    obtain ⟨hn, h⟩ := h
    obtain ⟨j, z, hj, _, _, hz, hzc, _, hpl⟩ := hTt.info hn
    have hu : P.underlying t = some (.array n e) := hT.sh hsh (by simp)
    have hse := (hT.sub hsh (by simp) (e := e) (by simp [Sh.subs])).sized
    have hzr : RCs w O hs (T t).zero z.cells.toList := by rw [hzc]; exact RCs_zero hpl
    obtain ⟨arr', h1, h2⟩ := fill_sound ps vs.toList _ z.cells hzr hl hp h
    refine ⟨.agg arr', ?_, arr', rfl, h2⟩
    simp only [Instr.build, Sem.run_bind, run_zeroValue hj hz, Result.andThen_ok, run_underlying hu, run_sizeOf hse, h1, Sem.run_pure]

theorem capsOf_sound : ∀ {l : List AV} {vs : List Value} {cs : List (Nat × Nat)}, capsOf l = some cs → vs.length = l.length → (∀ (i : Nat) (x : AV) (v : Value), l[i]? = some x → vs[i]? = some v → RV w O hs x v) →
    vs.length = cs.length ∧ ∀ (i : Nat) (p : Nat × Nat), cs[i]? = some p → ∃ b, hs p.1 = .pointer (some ⟨b, 0, none⟩) ∧ vs[i]? = some (.pointer (some ⟨b, p.2, none⟩))
  | [], vs, cs, h, hl, _ => by
    simp only [capsOf, Option.some.injEq] at h
    subst h
    exact ⟨hl, fun i p hp => by simp at hp⟩
  | x :: l, vs, cs, h, hl, hr => by
    cases vs with
    | nil => simp at hl
    | cons v vs =>
      simp only [capsOf] at h
      cases x <;> simp only at h <;> try cases h
      rename_i c
      cases c <;> simp only at h <;> try cases h
      rename_i o j
      cases hc : capsOf l with
      | none => rw [hc] at h; cases h
      | some cs' =>
        rw [hc] at h
        simp only [Option.some.injEq] at h
        subst h
        obtain ⟨h1, h2⟩ := capsOf_sound hc (by simpa using hl) fun i x v hx hv => hr (i + 1) x v hx hv
        refine ⟨by simp [h1], fun i p hp => ?_⟩
        cases i with
        | zero =>
          simp only [List.getElem?_cons_zero, Option.some.injEq] at hp
          subst hp
          obtain ⟨b, e1, e2⟩ := hr 0 _ v rfl rfl
          exact ⟨b, e1, by simp [e2]⟩
        | succ i => simpa using h2 i p (by simpa using hp)
end

section
variable {P : Program} {T : Tab} {F : Fr} {st : ASt} {hs : Nat → Value} {a : Act} {w : World}

theorem Sim.ac (h : Sim F st hs a w) {x : Operand} {g : Bool} (hg : g = true) (hn : (st.eval x).need g) : RC w (avoid F st.objs hs) hs (st.eval x).ac (a.eval x) := (h.eval x).ac hg hn

theorem need_true {x : AV} {g : Bool} (hg : g = true) (h : x.need g) : x.need true := by subst hg; exact h

theorem needAll_mem {g : Bool} : ∀ {l : List AV}, needAll g l → ∀ x ∈ l, x.need g ∧ x.isTup = false
  | _ :: _, h, x, hx => by
    rcases List.mem_cons.1 hx with rfl | hx
    · exact ⟨h.1, h.2.1⟩
    · exact needAll_mem h.2.2 x hx

theorem fitAll_mem : ∀ {l : List (Nat × List AC)}, fitAll l = true → ∀ p ∈ l, (p.2.all AC.fits) = true
  | _ :: _, h, p, hp => by
    simp only [fitAll, Bool.and_eq_true] at h
    rcases List.mem_cons.1 hp with rfl | hp
    · exact h.1
    · exact fitAll_mem h.2 p hp

theorem parts_sound (h : Sim F st hs a w) (ps : Array (Nat × Operand)) (hn : needAll true (ps.toList.map fun p => st.eval p.2)) (hf : fitAll (partsOf st ps.toList) = true) :
    (ps.map fun (p : Nat × Operand) => (p.1, a.eval p.2)).toList.length = (partsOf st ps.toList).length ∧
    ∀ (i : Nat) (p : Nat × List AC) (q : Nat × Value), (partsOf st ps.toList)[i]? = some p → (ps.map fun (p : Nat × Operand) => (p.1, a.eval p.2)).toList[i]? = some q →
      p.1 = q.1 ∧ RCs w (avoid F st.objs hs) hs p.2 q.2.cells.toList ∧ ∀ u ∈ q.2.cells.toList, u.oneCell' = true := by
  refine ⟨by simp [partsOf], fun i p q hp hq => ?_⟩
  simp only [partsOf, List.getElem?_map, Array.toList_map] at hp hq
  cases hi : ps.toList[i]? with
  | none => rw [hi] at hp; cases hp
  | some r =>
    rw [hi] at hp hq
    simp only [Option.map_some, Option.some.injEq] at hp hq
    subst hp
    subst hq
    have hm := List.mem_of_getElem? hi
    obtain ⟨h1, h2⟩ := needAll_mem hn _ (List.mem_map.2 ⟨r, hm, rfl⟩)
    exact ⟨rfl, (h.eval r.2).cells h1 h2 (fitAll_mem hf _ (List.mem_map.2 ⟨r, hm, rfl⟩))⟩

theorem bounds_sound (h : Sim F st hs a w) (lo : Option Operand) (hn : needAll true (lo.toList.map st.eval)) :
    (∀ x, (lo.map fun y => (st.eval y).ac) = some x → ∃ v, lo.map a.eval = some v ∧ RC w (avoid F st.objs hs) hs x v) ∧ ((lo.map fun y => (st.eval y).ac) = none → lo.map a.eval = none) := by
  cases lo with
  | none =>
    refine ⟨fun x hx => ?_, fun _ => rfl⟩
    cases hx
  | some y => exact ⟨fun x hx => by
      simp only [Option.map_some, Option.some.injEq] at hx
      subst hx
      exact ⟨_, rfl, h.ac rfl hn.1⟩, fun hx => (by cases hx)⟩

/-- **An operation that only looks gives what V0 says, and leaves the world alone.** -/
theorem qop_sound (hT : TabOK P T) (h : Sim F st hs a w) {o : Oper} {g : Bool} (hg : g = true) (hq : (qop T st g o).1) :
    ∃ v, (execOp a.eval o).run P w = .ok (.value v) w ∧ RV w (avoid F st.objs hs) hs (qop T st g o).2 v := by
  subst hg
  obtain ⟨dst, op, ty, pos, after, guard⟩ := o
  have lift : ∀ {s : Sem Value} {av : AV}, execOp a.eval ⟨dst, op, ty, pos, after, guard⟩ = (do pure (.value (← s)) : Sem Next) → (∃ v, s.run P w = .ok v w ∧ RV w (avoid F st.objs hs) hs av v) →
      ∃ v, (execOp a.eval ⟨dst, op, ty, pos, after, guard⟩).run P w = .ok (.value v) w ∧ RV w (avoid F st.objs hs) hs av v := fun e ⟨v, h1, h2⟩ => ⟨v, by rw [e, Sem.run_bind, h1]; rfl, h2⟩
  cases op <;> simp only [qop] at hq ⊢ <;> try exact hq.elim
  case move x => exact ⟨_, rfl, h.eval x⟩
  case assign x => exact ⟨_, rfl, h.eval x⟩
  case pick c x y =>
    cases hc : (st.eval c).ac <;> simp only [hc] at hq ⊢ <;> try exact hq.elim
    rename_i cb
    obtain ⟨h1, h2, h3⟩ := hq
    have hcr := h.ac rfl h1
    rw [hc] at hcr
    refine ⟨if cb = true then a.eval x else a.eval y, ?_, qpick_sound (fun hcb => ?_) fun hcb => ?_⟩
    · show (do pure (.value (if ← asBool (a.eval c) then a.eval x else a.eval y)) : Sem Next).run P w = _
      rw [hcr]
      rfl
    · exact (h.eval x).ac (g := true && cb) (by simp [hcb]) h2
    · exact (h.eval y).ac (g := true && !cb) (by simp [hcb]) h3
  case binOp bop t x y yt =>
    obtain ⟨h1, h2, h3⟩ := hq
    exact lift rfl (qbin_sound hT (h.ac rfl h1) (h.ac rfl h2) h3 x y)
  case unOp u t x =>
    obtain ⟨h1, h2⟩ := hq
    refine lift rfl ?_
    have hx := h.ac rfl h1
    unfold qun at h2 ⊢
    cases u <;> simp only at h2 ⊢ <;> try exact h2.elim
    case not => cases hc : (st.eval x).ac <;> simp only [hc] at h2 hx ⊢ <;> first | exact h2.elim | exact ⟨_, by rw [hx]; rfl, rfl⟩
    case neg => cases hc : (st.eval x).ac <;> simp only [hc] at h2 hx ⊢ <;> first | exact h2.elim | exact ⟨_, by rw [hx]; rfl, rfl⟩
  case convert src d x =>
    obtain ⟨h1, h2⟩ := hq
    exact lift rfl (qconvert_sound hT (h.ac rfl h1) h2)
  case indexAddr t x ix =>
    obtain ⟨h1, h2, h3⟩ := hq
    exact lift rfl (qindexAddr_sound hT h.good (h.ac rfl h1) (h.ac rfl h2) h3)
  case fieldAddr s x f =>
    obtain ⟨h1, h2⟩ := hq
    exact lift rfl (qfieldAddr_sound hT (h.ac rfl h1) h2)
  case field s x f =>
    refine lift rfl ?_
    cases hx : st.eval x <;> simp only [hx] at hq ⊢ <;> try exact hq.elim
    exact qfield_sound hT (h.eval x) hx hq
  case index t x ix =>
    obtain ⟨h1, h2, h3⟩ := hq
    exact lift rfl (qindex_sound hT (h.eval x) h1 (h.ac rfl h2) h3)
  case load t x =>
    obtain ⟨h1, h2⟩ := hq
    exact lift rfl (qload_sound hT h.good (qload_sh hT h2) (h.ac rfl h1) h2)
  case slice t x lo hi mx =>
    cases mx with
    | some _ => exact hq.elim
    | none =>
      obtain ⟨h1, h2, h3, h4⟩ := hq
      have bl := bounds_sound h lo h2
      have bh := bounds_sound h hi h3
      exact lift rfl (qslice_sound hT h.good (h.ac rfl h1) bl.1 bl.2 bh.1 bh.2 h4)
  case extract x i => exact lift rfl (qextract_sound (h.eval x) hq)
  case build t ps =>
    obtain ⟨h1, h2, h3⟩ := hq
    obtain ⟨hl, hp⟩ := parts_sound h ps h1 h2
    exact lift rfl (qbuild_sound hT hl (fun i p q h h' => ⟨(hp i p q h h').1, (hp i p q h h').2.1⟩) h3)
  case nilCheck x =>
    cases hc : (st.eval x).ac <;> simp only [hc] at hq ⊢ <;> try exact hq.elim
    case ptr o j =>
      have hx := h.ac rfl hq
      rw [hc] at hx
      obtain ⟨b, e1, e2⟩ := hx
      exact ⟨_, by simp only [execOp, e2]; rfl, b, e1, rfl⟩
    case fn f caps =>
      have hx := h.ac rfl hq
      rw [hc] at hx
      obtain ⟨arr, e1, e2⟩ := hx
      exact ⟨_, by simp only [execOp, e1]; rfl, arr, rfl, e2⟩
  case makeFunc fn first caps =>
    cases fn <;> simp only at hq ⊢ <;> try exact hq.elim
    rename_i f
    cases hf : first.toList with
    | cons => rw [hf] at hq; exact hq.elim
    | nil =>
      simp only [hf] at hq ⊢
      cases hc : capsOf (caps.toList.map st.eval) with
      | none => rw [hc] at hq; exact hq.elim
      | some l =>
        simp only [hc] at hq ⊢
        obtain ⟨h1, h2⟩ := capsOf_sound (w := w) (O := avoid F st.objs hs) (hs := hs) (vs := caps.toList.map a.eval) hc (by simp) fun i x v hx hv => by
          rw [List.getElem?_map] at hx hv
          cases hi : caps.toList[i]? with
          | none => rw [hi] at hx; cases hx
          | some y =>
            rw [hi] at hx hv
            simp only [Option.map_some, Option.some.injEq] at hx hv
            subst hx; subst hv
            exact h.eval y
        have hfe : first = #[] := by apply Array.ext'; simpa using hf
        refine ⟨.func (.func f) #[] (caps.map a.eval), ?_, caps.map a.eval, rfl, by simpa using h1, fun i p hp => ?_⟩
        · subst hfe; simp [execOp, Instr.makeFunc]
        · obtain ⟨b, e1, e2⟩ := h2 i p hp
          exact ⟨b, e1, by rw [← Array.getElem?_toList, Array.toList_map]; exact e2⟩
  case call c =>
    obtain ⟨callee, args, ats⟩ := c
    cases callee <;> simp only at hq ⊢ <;> try exact hq.elim
    rename_i b
    match hargs : args.toList, hq with
    | [x], hq =>
      have hae : args = #[x] := by apply Array.ext'; simpa using hargs
      subst hae
      cases b <;> simp only [hargs] at hq ⊢ <;> try exact hq.elim
      cases hats : ats.toList with
      | nil => rw [hats] at hq; exact hq.elim
      | cons t r =>
        have hat : ats[0]? = some t := by rw [← Array.getElem?_toList, hats]; rfl
        simp only [hats] at hq ⊢
        cases hsh : (T t).sh <;> simp only [hsh] at hq ⊢ <;> try exact hq.elim
        case str =>
          cases hc : (st.eval x).ac <;> simp only [hc] at hq ⊢ <;> try exact hq.elim
          rename_i s
          have hx := h.ac rfl hq
          rw [hc] at hx
          have hu : P.underlying t = some .string := hT.sh hsh (by simp)
          have hx' : a.eval x = .string s := hx
          exact ⟨.int .i64 s.size, by simp [execOp, resolve, invoke, builtin, Builtin.len_, hat, hx', run_underlying hu, goInt], by simp [RV, RC]⟩
        case slice el =>
          obtain ⟨h1, h2⟩ := hq
          have hu : P.underlying t = some (.slice el) := hT.sh hsh (by simp)
          obtain ⟨v, h3, h4⟩ := qlen_sound (P := P) h.good (h.ac rfl h1) h2 hu ty hat
          exact ⟨v, by simp [execOp, resolve, invoke, builtin, h3], h4⟩
    | [x, y], hq =>
      have hae : args = #[x, y] := by apply Array.ext'; simpa using hargs
      subst hae
      cases b <;> simp only [hargs] at hq ⊢ <;> try exact hq.elim
      case max =>
        obtain ⟨h1, h2, h3⟩ := hq
        have hx := h.ac rfl h1
        have hy := h.ac rfl h2
        unfold qmax at h3 ⊢
        cases hcx : (st.eval x).ac <;> simp only [hcx] at h3 hx ⊢ <;> try exact h3.elim
        cases hcy : (st.eval y).ac <;> simp only [hcy] at h3 hy ⊢ <;> try exact h3.elim
        simp only [RC] at hx hy
        exact ⟨_, by simp [execOp, resolve, invoke, builtin, Builtin.max_, hx, hy, Builtin.max2], rfl⟩
      case min =>
        obtain ⟨h1, h2, h3⟩ := hq
        have hx := h.ac rfl h1
        have hy := h.ac rfl h2
        unfold qmin at h3 ⊢
        cases hcx : (st.eval x).ac <;> simp only [hcx] at h3 hx ⊢ <;> try exact h3.elim
        cases hcy : (st.eval y).ac <;> simp only [hcy] at h3 hy ⊢ <;> try exact h3.elim
        simp only [RC] at hx hy
        exact ⟨_, by simp [execOp, resolve, invoke, builtin, Builtin.min_, hx, hy, Builtin.min2], rfl⟩
    | [], hq => exact hq.elim
    | _ :: _ :: _ :: _, hq => exact hq.elim
end
end Go.Vc
