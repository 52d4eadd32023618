/- Functions from their bodies; calls from what functions do. -/
import Derived.Test.YtcjcfpbbhmhlbaaV14
import Derived.Conc.MuLone
set_option linter.unusedVariables false
set_option linter.unusedSimpArgs false
namespace Go.Vc
section
variable {P : Program} {T : Tab}

theorem RP_compOf {w : World} {O : Nat → Prop} {hs : Nat → Value} {x : AV} {v : Value} (h : RV w O hs x v) : RP w O hs (compOf x) v := by
  cases x with
  | c x => intro y hy; simp only [List.cons.injEq, and_true] at hy; subst hy; exact h
  | agg cs => exact h
  | tup vs => intro y hy; cases hy
  | on g x => intro y hy; cases hy

theorem load_addr {w : World} {O : Nat → Prop} {hs : Nat → Value} {st : ASt} {t : TypeId} {x : AC} {v : Value} (hx : RC w O hs x v) (h : (qload T st t x).1) : ∃ ad, v = .pointer (some ad) := by
  cases x <;> simp only [qload] at h <;> try exact h.elim
  case ptr o j => obtain ⟨b, _, rfl⟩ := hx; exact ⟨_, rfl⟩
  case re ds => obtain ⟨b, off, rfl, _⟩ := hx; exact ⟨_, rfl⟩
  case el o size i j => obtain ⟨b, m, cap, _, rfl⟩ := hx; exact ⟨_, rfl⟩
  case xr o r =>
    cases hob : st.obj o <;> simp only [hob] at h <;> try exact h.elim
    rename_i xo
    cases xo <;> simp only at h <;> try exact h.elim
    cases r <;> simp only at h <;> try exact h.elim
    · obtain ⟨b, n, c, l, _, rfl⟩ := hx; exact ⟨_, rfl⟩
    · obtain ⟨u, l, b, n, c, _, _, rfl⟩ := hx; exact ⟨_, rfl⟩

theorem resOf_sound (hT : TabOK P T) {F : Fr} {st : ASt} {hs : Nat → Value} {a : Act} {w : World} (h : Sim F st hs a w) :
    ∀ rs : List ResultVar, (resOf T st rs).1 → ∃ vs : List Value, (∀ (g : ResultVar → Sem Value), (∀ t, g (.tmp t) = pure (a.tmps.getD t undef)) →
      (∀ p t, g (.cell p t) = (do loadVar t (← asAddr (a.tmps.getD p undef)))) → (rs.mapM g).run P w = .ok vs w) ∧ vs.length = (resOf T st rs).2.length ∧ (resOf T st rs).2.length = rs.length ∧
      ∀ (i : Nat) (x : AV) (v : Value), (resOf T st rs).2[i]? = some x → vs[i]? = some v → RV w (avoid F st.objs hs) hs x v
  | [], _ => ⟨[], fun g hg hc => by simp, rfl, rfl, fun i x v hx => by simp [resOf] at hx⟩
  | .tmp t :: rs, hr => by
    obtain ⟨vs, h1, h2, h2', h3⟩ := resOf_sound hT h rs hr.2
    refine ⟨a.eval (.tmp t) :: vs, fun g hg hc => by simp [List.mapM_cons, hg, h1 g hg hc, Act.eval], by simp [resOf, h2], by simp [resOf, h2'], fun i x v hx hv => ?_⟩
    cases i with
    | zero =>
      simp only [resOf, List.getElem?_cons_zero, Option.some.injEq] at hx hv
      subst hx; subst hv; exact (h.eval (.tmp t)).strip hr.1
    | succ i => exact h3 i x v (by simpa [resOf] using hx) (by simpa using hv)
  | .cell p t :: rs, hr => by
    obtain ⟨vs, h1, h2, h2', h3⟩ := resOf_sound hT h rs hr.2.2
    have hx := h.ac (x := .tmp p) rfl hr.1
    obtain ⟨v, e1, e2⟩ := qload_sound hT h.good (qload_sh hT hr.2.1) hx hr.2.1
    obtain ⟨ad, e3⟩ := load_addr hx hr.2.1
    have e4 : (loadVar t ad).run P w = .ok v w := by
      rw [e3] at e1
      simpa [Instr.loadAt, Instr.sureAddr] using e1
    have e5 : a.tmps.getD p undef = .pointer (some ad) := e3
    refine ⟨v :: vs, fun g hg hc => by simp only [List.mapM_cons, hc, e5]; simp [asAddr, e4, h1 g hg hc], by simp [resOf, h2], by simp [resOf, h2'], fun i x u hx hu => ?_⟩
    cases i with
    | zero => simp [resOf] at hx hu; subst hx; subst hu; exact e2
    | succ i => exact h3 i x u (by simpa [resOf] using hx) (by simpa using hu)

theorem results_sound (hT : TabOK P T) {F : Fr} {st : ASt} {hs : Nat → Value} {a : Act} {w : World} (h : Sim F st hs a w) (fn : Func) (hr : (resOf T st fn.results.toList).1) :
    ∃ v, (results fn a.tmps).run P w = .ok v w ∧ RV w (avoid F st.objs hs) hs (tupOf (resOf T st fn.results.toList).2) v := by
  unfold results
  rw [show fn.results = fn.results.toList.toArray by simp, List.mapM_toArray]
  obtain ⟨vs, h1, h2, h2', h3⟩ := resOf_sound hT h fn.results.toList (by simpa using hr)
  simp only [Sem.run_bind, Sem.run_map]
  rw [h1 _ (fun _ => rfl) (fun _ _ => rfl)]
  generalize (resOf T st fn.results.toList).2 = xs at h2 h3
  match xs, vs, h2, h3 with
  | [x], [v], _, h3 => exact ⟨v, by simp, h3 0 x v rfl rfl⟩
  | [], [], _, h3 => exact ⟨.tuple #[], by simp, #[], rfl, rfl, fun i p u hp => by simp at hp⟩
  | x :: y :: xs, v :: u :: vs, hl, h3 =>
    refine ⟨.tuple (v :: u :: vs).toArray, by simp, (v :: u :: vs).toArray, rfl, by simpa using hl, fun i p u' hp hu => ?_⟩
    rw [List.getElem?_map] at hp
    cases hx : (x :: y :: xs)[i]? with
    | none => rw [hx] at hp; cases hp
    | some z =>
      rw [hx] at hp
      cases hp
      exact RP_compOf (h3 i z u' hx (by simpa using hu))

/-- objects told by new numbers -/
theorem RO.ren {w : World} {O O' : Nat → Prop} {hs hs' : Nat → Value} {f : AC → AC} (hf : ∀ {x v}, RC w O hs x v → RC w O' hs' (f x) v) (hO : ∀ {d v}, RD w O d v → RD w O' d v)
    {ob : AObj} {h : Value} (hr : RO w O hs ob h) : RO w O' hs' (ob.map f) h := by
  cases ob with
  | ext x => exact XObj.imp hf hO (fun _ _ => rfl) hr
  | gone => exact trivial
  | cells ty cs => obtain ⟨b, vals, e, hb, hc⟩ := hr; exact ⟨b, vals, e, hb, hc.map hf⟩
  | row ty size α z enc xs =>
    obtain ⟨h1, vs, h2, h3⟩ := hr
    exact ⟨h1, vs, h2, fun i j d hi hj => by obtain ⟨cv, e1, e2⟩ := h3 i j d hi hj; exact ⟨cv, e1, hO e2⟩⟩

theorem keepObjs_get {objs : List AObj} {keep : List Nat} {k : Nat} {ob : AObj} (h : (keepObjs objs keep)[k]? = some ob) :
    ∃ o, keep[k]? = some o ∧ ob = (objs.getD o .gone).map (AC.ren fun p => findIx p keep 0) := by
  simp only [keepObjs, List.getElem?_map] at h
  cases hk : keep[k]? with
  | none => rw [hk] at h; cases h
  | some o => rw [hk] at h; cases h; exact ⟨o, rfl, rfl⟩

/-- the handles of the kept -/
def keepH (hs : Nat → Value) (keep : List Nat) (k : Nat) : Value := match keep[k]? with | some o => hs o | none => .nilFunc
theorem keepH_some {hs : Nat → Value} {keep : List Nat} {k o : Nat} (h : keep[k]? = some o) : keepH hs keep k = hs o := by simp [keepH, h]
theorem own_keep {objs : List AObj} {hs : Nat → Value} {keep : List Nat} {b : Nat} (h : own (keepObjs objs keep) (keepH hs keep) b) : ∃ (k o : Nat) (ob : AObj), keep[k]? = some o ∧ objs[o]? = some ob ∧ foot ob (hs o) b := by
  obtain ⟨k, ob, hk, hf⟩ := h
  obtain ⟨o, h1, rfl⟩ := keepObjs_get hk
  rw [foot_map, keepH_some h1] at hf
  cases ho : objs[o]? with
  | none => simp [List.getD, ho, foot] at hf
  | some ob => exact ⟨k, o, ob, h1, ho, by simpa [List.getD, ho] using hf⟩
theorem getElem?_inj_nodup {l : List Nat} (h : l.Nodup) {i j o : Nat} (hi : l[i]? = some o) (hj : l[j]? = some o) : i = j := by
  obtain ⟨h1, e1⟩ := List.getElem?_eq_some_iff.1 hi
  obtain ⟨h2, e2⟩ := List.getElem?_eq_some_iff.1 hj
  exact (List.getElem_inj h).1 (e1.trans e2.symm)

/-- the end of a function, with its first objects' number -/
def RetAt (T : Tab) (rs : List ResultVar) (n : Nat) (K : AV → List AObj → Prop) (st : ASt) : Prop := st.n0 = n ∧ RetOK T rs K st

def startSt (ntmps : Nat) (args : List AV) (objs : List AObj) : ASt := { slots := args ++ List.replicate (ntmps - args.length) (.c .junk), objs := objs, n0 := objs.length }

theorem ACall.of_body (hT : TabOK P T) {f : FuncId} {fn : Func} {c : Code} {nt : Nat} {rs : List ResultVar} {args : List AV} {objs : List AObj} {K : AV → List AObj → Prop} (hf : P.funcs[f]? = some fn)
    (hname : (fn.name == "runtime.NumGoroutine") = false) (hb : fn.body = some c) (hnt : fn.ntmps = nt) (hrs : fn.results.toList = rs)
    (h : VCp P T c (fun e st' => match e with | .normal => RetAt T rs objs.length K st' | .ret => RetAt T rs objs.length K st' | _ => False) (startSt nt args objs)) : ACall P f args objs K := by
  subst hnt hrs
  intro X hs w vals hX hG hdead hl hargs
  refine .inl ⟨fun args w => MuLone.run_callFunc_enter hf hname hb args w, calls_of_wp hf hb ?_⟩
  have hS : Sim ⟨w, own objs hs, X, hs⟩ (startSt fn.ntmps args objs) hs { tmps := vals ++ Array.replicate (fn.ntmps - vals.size) undef, defers := [] } w := by
    refine ⟨by simp [startSt, hl], fun i av v h1 h2 => ?_, hG, rfl, Keep.refl _ _, fun b hb => .inl hb, fun o ho => rfl, hX, hdead, Nat.le_refl _⟩
    simp only [startSt] at h1
    rw [List.getElem?_append] at h1
    rw [Array.getElem?_append] at h2
    split at h1
    · rename_i hi
      rw [if_pos (by rw [hl]; exact hi)] at h2
      exact hargs i av v h1 h2
    · rename_i hi
      have := (List.mem_replicate.1 (List.mem_of_getElem? h1)).2
      subst this
      exact trivial
  refine wp_mono (VC_sound hT c _ _ h _ hs _ w hS) fun e a w' hQ => ?_
  have fin : ∀ st' hs1, RetAt T fn.results.toList objs.length K st' → Sim ⟨w, own objs hs, X, hs⟩ st' hs1 a w' → a.defers = [] ∧ ∃ v, (results fn a.tmps).run P w' = .ok v w' ∧
      ∃ r objs' hs', K r objs' ∧ RV w' (fun b => own objs' hs' b ∨ X b) hs' r v ∧ Good w' (fun b => own objs' hs' b ∨ X b) objs' hs' ∧ Keep (own objs hs) w w' ∧
          (∀ b, own objs' hs' b → own objs hs b ∨ w.heap.size ≤ b) ∧ (∀ o, o < objs.length → hs' o = hs o) ∧ (∀ o, objs'.length ≤ o → hs' o = .nilFunc) ∧ objs.length ≤ objs'.length := by
    rintro st' hs1 ⟨hn0, hres, keep, k1, k2, k3, hK⟩ hS1
    obtain ⟨v, hv, hrv⟩ := results_sound hT hS1 fn hres
    have hO' : ∀ b, own (keepObjs st'.objs keep) (keepH hs1 keep) b ∨ X b → avoid ⟨w, own objs hs, X, hs⟩ st'.objs hs1 b := fun b hb => hb.imp (fun h => by
      obtain ⟨k, o, ob, h1, h2, h3⟩ := own_keep h
      exact ⟨o, ob, h2, h3⟩) id
    have hD : ∀ {d v}, RD w' (avoid ⟨w, own objs hs, X, hs⟩ st'.objs hs1) d v → RD w' (fun b => own (keepObjs st'.objs keep) (keepH hs1 keep) b ∨ X b) d v := fun hr =>
      RD.mono (Nat.le_refl _) (fun b _ hn => ⟨rfl, fun hb => hn (hO' b hb)⟩) hr
    have hC : ∀ {x v}, RC w' (avoid ⟨w, own objs hs, X, hs⟩ st'.objs hs1) hs1 x v → RC w' (fun b => own (keepObjs st'.objs keep) (keepH hs1 keep) b ∨ X b) (keepH hs1 keep) (x.ren fun p => findIx p keep 0) v := fun hr =>
      RC.ren (fun o p hp => keepH_some (by simpa using (findIx_spec hp).2)) hD (fun b _ hn hb => hn (hO' b hb)) hr
    refine ⟨hS1.defers, v, hv, _, keepObjs st'.objs keep, keepH hs1 keep, hK, hrv.map hC, ⟨fun k ob hk => ?_, fun k k' ob ob' b hk hk' h1 h2 => ?_⟩, hS1.keep, fun b hb => ?_, fun o ho => ?_, fun o ho => ?_, ?_⟩
    · obtain ⟨o, h1, rfl⟩ := keepObjs_get hk
      rw [keepH_some h1]
      cases ho : st'.objs[o]? with
      | none => simp [List.getD, ho]; exact trivial
      | some ob => simpa [List.getD, ho] using (hS1.good.rel o ob ho).ren hC hD
    · obtain ⟨o, e1, rfl⟩ := keepObjs_get hk
      obtain ⟨o', e2, rfl⟩ := keepObjs_get hk'
      rw [foot_map, keepH_some e1] at h1
      rw [foot_map, keepH_some e2] at h2
      cases ho : st'.objs[o]? with
      | none => simp [List.getD, ho, foot] at h1
      | some ob =>
        cases ho' : st'.objs[o']? with
        | none => simp [List.getD, ho', foot] at h2
        | some ob' =>
          simp only [List.getD, ho, ho', Option.getD_some] at h1 h2
          have := hS1.good.disj o o' ob ob' b ho ho' h1 h2
          subst this
          exact getElem?_inj_nodup k3 e1 e2
    · obtain ⟨k, o, ob, h1, h2, h3⟩ := own_keep hb
      exact hS1.ownb b ⟨o, ob, h2, h3⟩
    · have h1 : keep[o]? = some o := by
        have : (keep.take st'.n0)[o]? = (List.range st'.n0)[o]? := by rw [k1]
        rw [List.getElem?_take, if_pos (by omega), List.getElem?_range (by omega)] at this
        exact this
      rw [keepH_some h1]
      exact hS1.fix o (by omega)
    · have : keep[o]? = none := List.getElem?_eq_none (by simpa [keepObjs] using ho)
      simp [keepH, this]
    · simp [keepObjs]; omega
  cases e with
  | outgrown => exact hQ.elim
  | panic c => exact hQ.elim
  | normal => obtain ⟨st', hs1, h1, h2⟩ := hQ; exact fin st' hs1 h1 h2
  | ret => obtain ⟨st', hs1, h1, h2⟩ := hQ; exact fin st' hs1 h1 h2
  | exit i => obtain ⟨_, _, h, _⟩ := hQ; exact h.elim
  | goto l => obtain ⟨_, _, h, _⟩ := hQ; exact h.elim
end
end Go.Vc
