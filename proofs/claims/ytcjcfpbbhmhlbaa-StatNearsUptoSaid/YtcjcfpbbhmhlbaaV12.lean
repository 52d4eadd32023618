/- The conditions of V0 hold: operations, regions, code. -/
import Derived.Test.YtcjcfpbbhmhlbaaV11W
import Derived.Laws.StructEq
set_option linter.unusedVariables false
set_option linter.unusedSimpArgs false
namespace Go.Vc
section
variable {P : Program} {T : Tab} {F : Fr} {st : ASt} {hs : Nat → Value} {a : Act} {w : World}

theorem intsEq_all : ∀ {xs ys : List AC}, (intsEq xs ys).1 → xs.length = ys.length ∧ (∀ i, i < xs.length → ∃ k a b, xs[i]? = some (.int k a) ∧ ys[i]? = some (.int k b))
  | [], [], _ => ⟨rfl, fun i hi => by cases hi⟩
  | [], y :: ys, h => h.elim
  | x :: xs, [], h => by cases x <;> exact h.elim
  | x :: xs, y :: ys, h => by
    cases x <;> simp only [intsEq] at h <;> try exact h.elim
    cases y <;> simp only at h <;> try exact h.elim
    rename_i k a k' b
    obtain ⟨h1, h2⟩ := h
    subst h1
    obtain ⟨e1, e2⟩ := intsEq_all h2
    refine ⟨by simp [e1], fun i hi => ?_⟩
    cases i with
    | zero => exact ⟨k, a, b, rfl, rfl⟩
    | succ i => exact e2 i (by simpa using hi)
def numAt (xs : List AC) (i : Nat) : Int := match xs[i]? with
  | some (.int _ a) => a
  | _ => 0
theorem intsEq_val : ∀ {xs ys : List AC} (s : Nat) (f : Nat → Bool), (intsEq xs ys).1 → (∀ i, i < xs.length → f (s + i) = (numAt xs i == numAt ys i)) → (List.range' s xs.length).all f = (intsEq xs ys).2
  | [], [], _, _, _, _ => rfl
  | [], y :: ys, _, _, h, _ => h.elim
  | x :: xs, [], _, _, h, _ => by cases x <;> exact h.elim
  | x :: xs, y :: ys, s, f, h, hf => by
    cases x <;> simp only [intsEq] at h <;> try exact h.elim
    cases y <;> simp only at h <;> try exact h.elim
    rename_i k a k' b
    obtain ⟨h1, h2⟩ := h
    have ih := intsEq_val (s + 1) f h2 fun i hi => by
      have := hf (i + 1) (by simpa using hi)
      rw [show s + 1 + i = s + (i + 1) by omega, this]
      rfl
    have h0 := hf 0 (by simp)
    rw [List.length_cons, List.range'_succ, List.all_cons, ih]
    rw [Nat.add_zero] at h0
    rw [h0]
    rfl
theorem run_equal_ints {t e : TypeId} {ti : TI} {n : Nat} {ik : IntKind} (hTe : TOK P e ti) (hue : P.underlying e = some (.int ik)) (hna : ti.isAgg = false) (hu : P.underlying t = some (.array n e)) (w : World) (d : Nat)
    {O O' : Nat → Prop} {hs hs' : Nat → Value} {xs ys : List AC} {arr brr : Array Value} (hl : xs.length = n) (hi : (intsEq xs ys).1) (ra : RCs w O hs xs arr.toList) (rb : RCs w O' hs' ys brr.toList) :
    (Op.equalIn (d + 1 + 1) t (.agg arr) (.agg brr)).run P w = .ok (intsEq xs ys).2 w := by
  have h1 := hTe.one hna
  obtain ⟨hxy, hall⟩ := intsEq_all hi
  have hal : arr.size = n := by have := ra.1; simp at this; omega
  have hbl : brr.size = n := by have := rb.1; simp at this; omega
  have val : ∀ i, i < n → ∃ k, arr[i]? = some (.int k (numAt xs i)) ∧ brr[i]? = some (.int k (numAt ys i)) := fun i hin => by
    obtain ⟨k, a, b, e1, e2⟩ := hall i (by omega)
    have ea : arr[i]? = some arr[i] := Array.getElem?_eq_getElem (by omega)
    have eb : brr[i]? = some brr[i] := Array.getElem?_eq_getElem (by omega)
    have va : arr[i] = .int k a := ra.2 i _ _ e1 (by rw [Array.getElem?_toList, ea])
    have vb : brr[i] = .int k b := rb.2 i _ _ e2 (by rw [Array.getElem?_toList, eb])
    refine ⟨k, ?_, ?_⟩
    · rw [ea, va]; simp [numAt, e1]
    · rw [eb, vb]; simp [numAt, e2]
  have prt : ∀ (cs : Array Value) (i : Nat) (v : Value) (w : World), cs[i]? = some v → (part e cs (i * 1)).run P w = .ok v w := fun cs i v w hv => by
    have hlt : i < cs.size := (Array.getElem?_eq_some_iff.1 hv).1
    rw [run_part hTe (by rw [h1]; omega), hna, h1]
    have : (cs.toList.drop (i * 1)).take 1 = [cs[i]] := by
      rw [Nat.mul_one, List.drop_eq_getElem_cons (by simpa using hlt)]
      simp
    rw [this]
    rw [Array.getElem?_eq_getElem hlt] at hv
    cases hv
    rfl
  rw [← intsEq_val 0 (fun i => numAt xs i == numAt ys i) hi (fun i _ => by rw [Nat.zero_add]), hl]
  rw [Op.equalIn]
  simp only [Sem.run_bind, run_underlying hu, Result.andThen_ok, run_sizeOf hTe.sized, h1]
  rw [Std.Legacy.Range.forIn_eq_forIn_range']
  have hL : ∀ i ∈ List.range' 0 n, i < n := fun i hi => by simp at hi; omega
  simp only [Std.Legacy.Range.size, Nat.sub_zero, Nat.add_sub_cancel, Nat.div_one]
  generalize List.range' 0 n = L at *
  induction L with
  | nil => simp
  | cons i L ih =>
    obtain ⟨k, e1, e2⟩ := val i (hL i (by simp))
    simp only [List.forIn_cons, Sem.run_bind, prt arr i _ _ e1, prt brr i _ _ e2, Result.andThen_ok, run_equalIn_int w d e k ik _ _ hue, List.all_cons]
    cases hc : numAt xs i == numAt ys i with
    | false => simp
    | true =>
      have ih' := ih fun q hq => hL q (by simp [hq])
      simpa using ih'
theorem frzRefs_sound : ∀ (cs : List AC) (n0 : Nat) (st : ASt), Sim F st hs a w → Sim F (frzRefs n0 cs st) hs a w
  | [], _, _, h => h
  | c :: cs, n0, st, h => by
    simp only [frzRefs]
    cases c <;> try exact frzRefs_sound cs n0 st h
    case sl o =>
      refine frzRefs_sound cs n0 _ ?_
      cases decide (n0 ≤ o)
      · exact h
      · exact h.freeze o
    case sub o s lo n =>
      refine frzRefs_sound cs n0 _ ?_
      cases decide (n0 ≤ o)
      · exact h
      · exact h.freeze o
    case xr o r =>
      refine frzRefs_sound cs n0 _ ?_
      cases decide (n0 ≤ o)
      · exact h
      · exact h.freeze o

theorem need_map {f : AC → AC} {x : AV} {g : Bool} : (x.map f).need g ↔ x.need g := by cases x <;> exact Iff.rfl
theorem isTup_map {f : AC → AC} {x : AV} : (x.map f).isTup = x.isTup := by cases x <;> rfl

theorem eval_freeze (st : ASt) (o : Nat) (x : Operand) : (st.freeze o).eval x = st.eval x ∨ ∃ f, (st.freeze o).eval x = (st.eval x).map f := by
  unfold ASt.freeze
  cases hob : st.obj o with
  | gone => exact .inl rfl
  | cells => exact .inl rfl
  | ext xo =>
    cases xo <;> try exact .inl rfl
    case map kt vt ks agg β z enc clock es =>
      cases agg with
      | true => exact .inl rfl
      | false =>
        cases x with
        | tmp t =>
          right
          refine ⟨AC.frz o (.ext (.map kt vt ks false β z enc clock es)), ?_⟩
          simp only [ASt.eval, ASt.setObj, ASt.map, List.getD, List.getElem?_map]
          cases st.slots[t]? <;> rfl
        | const v => exact .inl rfl
        | global g => exact .inl rfl
        | func f => exact .inl rfl
    rename_i ty ety size α z enc xss
    cases x with
    | tmp t =>
      right
      refine ⟨AC.frz o (.ext (.rows ty ety size α z enc xss)), ?_⟩
      simp only [ASt.eval, ASt.setObj, ASt.map, List.getD, List.getElem?_map]
      cases st.slots[t]? <;> rfl
    | const v => exact .inl rfl
    | global g => exact .inl rfl
    | func f => exact .inl rfl
  | row ty size α z enc xs =>
    cases x with
    | tmp t =>
      right
      refine ⟨AC.frz o (.row ty size α z enc xs), ?_⟩
      simp only [ASt.eval, ASt.setObj, ASt.map, List.getD, List.getElem?_map]
      cases st.slots[t]? <;> rfl
    | const v => exact .inl rfl
    | global g => exact .inl rfl
    | func f => exact .inl rfl
theorem eval_shallow (st : ASt) (o : Nat) (x : Operand) : (st.shallow o).eval x = st.eval x ∨ ∃ f, (st.shallow o).eval x = (st.eval x).map f := by
  unfold ASt.shallow
  cases hob : st.obj o with
  | gone => exact .inl rfl
  | cells => exact .inl rfl
  | row => exact .inl rfl
  | ext xo =>
    cases xo <;> try exact .inl rfl
    rename_i ty ety size α z enc xss
    cases x with
    | tmp t =>
      right
      refine ⟨AC.shallow o size α z enc xss, ?_⟩
      simp only [ASt.eval, ASt.setObj, ASt.map, List.getD, List.getElem?_map]
      cases st.slots[t]? <;> rfl
    | const v => exact .inl rfl
    | global g => exact .inl rfl
    | func f => exact .inl rfl
theorem eval_frzRefs : ∀ (cs : List AC) (n0 : Nat) (st : ASt) (x : Operand) (g : Bool), ((st.eval x).need g → ((frzRefs n0 cs st).eval x).need g) ∧ ((frzRefs n0 cs st).eval x).isTup = (st.eval x).isTup
  | [], _, _, _, _ => ⟨id, rfl⟩
  | c :: cs, n0, st, x, g => by
    have one : ∀ (o : Nat) (b : Bool), ((st.eval x).need g → ((frzRefs n0 cs (bif b then st.freeze o else st)).eval x).need g) ∧ ((frzRefs n0 cs (bif b then st.freeze o else st)).eval x).isTup = (st.eval x).isTup := fun o b => by
      obtain ⟨h1, h2⟩ := eval_frzRefs cs n0 (bif b then st.freeze o else st) x g
      cases b with
      | false => exact ⟨h1, h2⟩
      | true =>
        simp only [cond_true] at h1 h2 ⊢
        rcases eval_freeze st o x with e | ⟨f, e⟩
        · rw [e] at h1 h2; exact ⟨h1, h2⟩
        · rw [e] at h1 h2; exact ⟨fun hn => h1 (need_map.2 hn), by rw [h2, isTup_map]⟩
    simp only [frzRefs]
    cases c <;> try exact eval_frzRefs cs n0 st x g
    case sl o => exact one o _
    case sub o s lo n => exact one o _
    case xr o r => exact one o _

theorem RV.strip {O : Nat → Prop} {x : AV} {v : Value} (h : RV w O hs x v) (hn : x.need true) : RV w O hs x.strip v := by
  cases x with
  | on g x => exact h.1 (hn rfl)
  | _ => exact h
theorem strip_tup {x : AV} : x.strip.isTup = x.isTup := by cases x <;> rfl
theorem strip_need {x : AV} {g : Bool} : x.strip.need g := by cases x <;> exact trivial

theorem Does.of_value {o : Oper} {K : ASt → Prop} {s : Sem Value} (he : execOp a.eval o = (do pure (.value (← s)) : Sem Next))
    (h : ∃ v w', s.run P w = .ok v w' ∧ ∃ st' hs' av, K (st'.put o.dst av) ∧ Sim F st' hs' a w' ∧ RV w' (avoid F st'.objs hs') hs' av v) : Does P o F a w K := by
  obtain ⟨v, w', hr, st', hs', av, hK, hS, hv⟩ := h
  exact ⟨.value v, w', by rw [he, Sem.run_bind, hr]; rfl, .inl ⟨v, rfl, st', hs', av, hK, hS, hv⟩⟩

theorem ned_mem : ∀ {l : List Operand}, ned st l → ∀ x ∈ l, (st.eval x).need true ∧ (st.eval x).isTup = false
  | _ :: _, h, x, hx => by
    rcases List.mem_cons.1 hx with rfl | hx
    · exact ⟨h.1, h.2.1⟩
    · exact ned_mem h.2.2 x hx

theorem ownSl_spec {v : AV} {q : Nat} (h : ownSl v = some q) : v = .c (.sl q) := by
  unfold ownSl at h
  cases v <;> simp only at h <;> try cases h
  rename_i x
  cases x <;> simp only at h <;> cases h
  rfl
theorem ownPart_spec {n : Nat} {ps : List (Nat × Operand)} {q : Nat} (h : ownPart st n ps = some q) : ∃ p, ps = [p] ∧ n = 1 ∧ p.1 = 0 ∧ ownSl (st.eval p.2) = some q ∧ st.n0 ≤ q := by
  unfold ownPart at h
  match ps, h with
  | [p], h =>
    match n, h with
    | 1, h =>
      simp only at h
      cases ho : ownSl (st.eval p.2) with
      | none => rw [ho] at h; cases h
      | some q' =>
        rw [ho] at h
        simp only at h
        cases hb : (decide (st.n0 ≤ q') && decide (p.1 = 0)) with
        | false => rw [hb] at h; cases h
        | true =>
          rw [hb] at h
          simp only [cond_true, Option.some.injEq] at h
          subst h
          simp only [Bool.and_eq_true, decide_eq_true_eq] at hb
          exact ⟨p, rfl, rfl, hb.2, ho, hb.1⟩
    | 0, h => cases h
    | n + 2, h => cases h
  | [], h => cases h
  | _ :: _ :: _, h => cases h
/-- **Operations that make or write memory, and calls.** -/
theorem aop_sound (hT : TabOK P T) (h : Sim F st hs a w) {o : Oper} {K : ASt → Prop} (hk : aop (CallAt P) T o st K) {Q : Exit → Act → World → Prop} :
    o.wp P a w (fun a' w' => ∃ st' hs', K st' ∧ Sim F st' hs' a' w') Q := by
  obtain ⟨dst, op, ty, pos, after, guard⟩ := o
  have call : ∀ {f : FuncId} {args : List AV} {vals : Array Value}, execOp a.eval ⟨dst, op, ty, pos, after, guard⟩ = callFunc f vals → vals.size = args.length →
      (∀ (i : Nat) (x : AV) (v : Value), args[i]? = some x → vals[i]? = some v → RV w (avoid F st.objs hs) hs x v) → CallAt P f args st (fun r st' => K (st'.put dst r)) →
      Oper.wp P ⟨dst, op, ty, pos, after, guard⟩ a w (fun a' w' => ∃ st' hs', K st' ∧ Sim F st' hs' a' w') Q := by
    intro f args vals he hl hv hc
    have post : ∀ e w', CPost F (fun r st' => K (st'.put dst r)) a e w' → (match e with
        | .returned v => ∃ st' hs', K st' ∧ Sim F st' hs' (a.put dst v) w'
        | .panicked chain => Q (.panic chain) a w'
        | .outgrown => LetsOut Q) := by
      intro e w' hp
      cases e with
      | returned v => obtain ⟨r, st', hs', hK, hS, hr⟩ := hp; exact ⟨_, hs', hK, hS.put dst hr⟩
      | panicked c => exact hp.elim
      | outgrown => exact hp.elim
    unfold Oper.wp
    rw [he]
    rcases hc F hs a w vals h hl hv with ⟨hen, hcalls⟩ | ⟨v, w', hr, hp⟩
    · rw [hen vals w]
      exact hcalls.mono fun e w' hp => by have := post e w' hp; cases e <;> exact this
    · rw [hr]
      exact post _ _ hp
  have upd : ∀ {t : TypeId} {m k v : Operand}, execOp a.eval ⟨dst, op, ty, pos, after, guard⟩ = (do Instr.mapUpdate t (a.eval m) (a.eval k) (a.eval v); pure .skip : Sem Next) → ned st [m, k, v] →
      amapUpdate T (frzRefs st.n0 (st.eval v).cells st) t (st.eval m).ac ((frzRefs st.n0 (st.eval v).cells st).ev k) ((frzRefs st.n0 (st.eval v).cells st).ev v) (fun st' => K (st'.put dst (.c .junk))) →
      Oper.wp P ⟨dst, op, ty, pos, after, guard⟩ a w (fun a' w' => ∃ st' hs', K st' ∧ Sim F st' hs' a' w') Q := by
    intro t m k v he hn hk
    have h2 := frzRefs_sound (st.eval v).cells st.n0 st h
    obtain ⟨g1, g2⟩ := eval_frzRefs (st.eval v).cells st.n0 st v true
    obtain ⟨g3, g4⟩ := eval_frzRefs (st.eval v).cells st.n0 st k true
    have hm : RC w (avoid F (frzRefs st.n0 (st.eval v).cells st).objs hs) hs (st.eval m).ac (a.eval m) ∨ ¬ ∃ o, (st.eval m).ac = .xr o .self := by
      by_cases hc : ∃ o, (st.eval m).ac = .xr o .self
      · obtain ⟨o, ho⟩ := hc
        have := h.ac (x := m) rfl hn.1
        rw [ho] at this ⊢
        exact .inl this
      · exact .inr hc
    have e1 : ((frzRefs st.n0 (st.eval v).cells st).ev v).need true := strip_need
    have e2 : ((frzRefs st.n0 (st.eval v).cells st).ev v).isTup = false := strip_tup.trans (g2.trans hn.2.2.2.2.2.1)
    rcases hm with hm | hm
    · obtain ⟨w', st', hr, hK, hS'⟩ := mapUpdate_sound hT h2 hm ((h2.eval k).strip (g3 hn.2.2.1)) strip_need ((h2.eval v).strip (g1 hn.2.2.2.2.1)) e1 e2 hk
      refine Does.wp ⟨.skip, w', ?_, .inr ⟨rfl, st', hs, hK, hS'⟩⟩
      rw [he, Sem.run_bind, hr]
      rfl
    · exfalso
      unfold amapUpdate at hk
      cases hsh : (T t).sh <;> simp only [hsh] at hk <;> try exact hk
      cases hc : (st.eval m).ac <;> simp only [hc] at hk <;> try exact hk
      rename_i o r
      cases r <;> simp only at hk
      exact hm ⟨o, hc⟩
  cases op <;> simp only [aop] at hk <;> try exact hk.elim
  case alloc t =>
    obtain ⟨h0, hK⟩ := hk
    obtain ⟨w', hs', hr, hS, hv⟩ := alloc_sound hT h h0
    exact (Does.of_value rfl ⟨_, w', hr, _, hs', _, hK, hS, hv⟩).wp
  case box t v =>
    obtain ⟨hn, hl, hf, hK⟩ := hk
    obtain ⟨w', hs', hr, hS, hv⟩ := box_sound (P := P) (t := t) h (h.eval v) hn.1 hn.2.1 hf
    exact (Does.of_value rfl ⟨_, w', hr, _, hs', _, hK, hS, hv⟩).wp
  case makeSlice t l c =>
    obtain ⟨hn, hk⟩ := hk
    exact (Does.of_value rfl (make_sound hT h (h.ac rfl hn.1) (h.ac rfl hn.2.2.1) hk)).wp
  case convert src t x =>
    obtain ⟨hn, hk⟩ := hk
    exact (Does.of_value rfl (aconv_sound hT h (h.ac rfl hn.1) hk)).wp
  case makeMap t r =>
    obtain ⟨hn, hk⟩ := hk
    refine (Does.of_value rfl (makeMap_sound hT h (fun v hv => ?_) hk)).wp
    cases r with
    | none => cases hv
    | some x =>
      cases hv
      obtain ⟨h1, h2⟩ := hn
      have hx := h.ac rfl h1
      cases hc : (st.eval x).ac <;> simp only [hc] at h2 hx
      exact ⟨_, _, hx⟩
  case range t x =>
    obtain ⟨hn, hk⟩ := hk
    exact (Does.of_value rfl (range_sound hT h (h.ac rfl hn.1) hk)).wp
  case next x isS =>
    obtain ⟨hn, rfl, hk⟩ := hk
    exact (Does.of_value rfl (next_sound h (h.ac rfl hn.1) hk)).wp
  case mapUpdate t m k v =>
    obtain ⟨hn, hk⟩ := hk
    exact upd rfl hn hk
  case insert t m k v =>
    obtain ⟨hn, hk⟩ := hk
    exact upd rfl hn hk
  case buildSlice t n ps =>
   cases hop : ownPart st n ps.toList with
   | some q =>
    simp only [hop] at hk
    obtain ⟨p, e1, rfl, e2, e3, hnq⟩ := ownPart_spec hop
    have hps : ps = #[p] := by apply Array.ext'; simpa using e1
    subst hps
    have hv := h.eval p.2
    rw [ownSl_spec e3] at hv
    have e4 : (#[p].map fun (p : Nat × Operand) => (p.1, a.eval p.2)) = #[(0, a.eval p.2)] := by rw [← e2]; simp
    refine (Does.of_value (s := Instr.buildSlice t 1 (#[p].map fun (p : Nat × Operand) => (p.1, a.eval p.2))) rfl ?_).wp
    rw [e4]
    exact buildRows_sound hT h hv hnq hk
   | none =>
    simp only [hop] at hk
    obtain ⟨hn, hf, hk⟩ := hk
    generalize hcs : (ps.toList.flatMap fun p => (st.eval p.2).cells) = cs at hf hk
    have h2 := frzRefs_sound cs st.n0 st h
    have hn2 : needAll true (ps.toList.map fun p => (frzRefs st.n0 cs st).eval p.2) := by
      have : ∀ l : List (Nat × Operand), needAll true (l.map fun p => st.eval p.2) → needAll true (l.map fun p => (frzRefs st.n0 cs st).eval p.2) := by
        intro l
        induction l with
        | nil => exact id
        | cons p l ih =>
          rintro ⟨h1, h3, h4⟩
          obtain ⟨g1, g2⟩ := eval_frzRefs cs st.n0 st p.2 true
          exact ⟨g1 h1, by rw [g2]; exact h3, ih h4⟩
      exact this _ hn
    obtain ⟨hl, hp⟩ := parts_sound h2 ps hn2 hf
    exact (Does.of_value rfl (buildSlice_sound hT h2 hl (fun i p q h h' => ⟨(hp i p q h h').1, (hp i p q h h').2.1⟩) hk)).wp
  case store t x v =>
    obtain ⟨hn, h0, hk⟩ := hk
    have put : ∀ {w' : World} {st' : ASt} {hs' : Nat → Value}, (Instr.storeAt t (a.eval x) (a.eval v)).run P w = .ok () w' → K (st'.put dst (.c .junk)) → Sim F st' hs' a w' →
        Oper.wp P ⟨dst, .store t x v, ty, pos, after, guard⟩ a w (fun a' w' => ∃ st' hs', K st' ∧ Sim F st' hs' a' w') Q := by
      intro w' st' hs' hr hK hS'
      refine Does.wp ⟨.skip, w', ?_, .inr ⟨rfl, st', hs', hK, hS'⟩⟩
      show (do Instr.storeAt t (a.eval x) (a.eval v); pure .skip : Sem Next).run P w = _
      rw [Sem.run_bind, hr]
      rfl
    have fin : ∀ {st2 : ASt} {hs : Nat → Value} {A : AC} {V : AV}, Sim F st2 hs a w → RC w (avoid F st2.objs hs) hs A (a.eval x) → RV w (avoid F st2.objs hs) hs V (a.eval v) → V.need true → V.isTup = false →
        astore T st2 t A V (fun st' => K (st'.put dst (.c .junk))) → Oper.wp P ⟨dst, .store t x v, ty, pos, after, guard⟩ a w (fun a' w' => ∃ st' hs', K st' ∧ Sim F st' hs' a' w') Q := by
      intro st2 hs A V hS hA hV hVn hVt hk
      obtain ⟨w', st', hr, hK, hS'⟩ := astore_sound hT hS hA hV hVn hVt h0 hk
      exact put hr hK hS'
    have hx := h.ac rfl hn.1
    cases hc : (st.eval x).ac <;> simp only [hc] at hk hx
    case xr p r =>
      cases r <;> simp only at hk <;> try exact hk.elim
      case inel i s k j =>
        have h2 := frzRefs_sound (st.eval v).cells st.n0 st h
        obtain ⟨g1, g2⟩ := eval_frzRefs (st.eval v).cells st.n0 st v true
        have e1 : ((frzRefs st.n0 (st.eval v).cells st).ev v).need true := strip_need
        have e2 : ((frzRefs st.n0 (st.eval v).cells st).ev v).isTup = false := strip_tup.trans (g2.trans hn.2.2.2.1)
        obtain ⟨w', st', hr, hK, hS'⟩ := xstore_sound hT h2 (show RC w _ hs (.xr p (.inel i s k j)) _ from hx) ((h2.eval v).strip (g1 hn.2.2.1)) e1 e2 h0 hk
        exact put hr hK hS'
      case cell i =>
        cases how : ownSl (st.eval v) with
        | some q =>
          simp only [how] at hk
          have hv := h.eval v
          rw [ownSl_spec how] at hv
          obtain ⟨w', st', hs', hr, hK, hS'⟩ := xabsorb_sound hT h (show RC w _ hs (.xr p (.cell i)) _ from hx) hv h0 hk
          exact put hr hK hS'
        | none =>
          simp only [how] at hk
          obtain ⟨hrows, hnp, hk⟩ := hk
          unfold isRows at hrows
          cases hob : st.obj p <;> simp only [hob] at hrows <;> try (cases hrows; done)
          rename_i xo
          cases xo <;> simp only at hrows <;> try (cases hrows; done)
          rename_i ty' ety size α z enc xss
          obtain ⟨u, l, e5, hS⟩ := h.shallow hob hnp
          have h2 := frzRefs_sound (st.eval v).cells st.n0 _ hS
          have hA : RC w (avoid F (frzRefs st.n0 (st.eval v).cells (st.shallow p)).objs (setH hs p u)) (setH hs p u) (.el p 1 i 0) (a.eval x) := by
            obtain ⟨b, n, c, l', e', e6⟩ := hx
            obtain ⟨rfl, rfl⟩ := cons_inj e5 e'
            exact ⟨b, n, c, setH_same, by rw [e6]; simp⟩
          obtain ⟨f1, f2⟩ : ((st.eval v).need true → ((st.shallow p).eval v).need true) ∧ ((st.shallow p).eval v).isTup = (st.eval v).isTup := by
            rcases eval_shallow st p v with e | ⟨f, e⟩
            · rw [e]; exact ⟨id, rfl⟩
            · rw [e]; exact ⟨fun hn => need_map.2 hn, isTup_map⟩
          obtain ⟨g1, g2⟩ := eval_frzRefs (st.eval v).cells st.n0 (st.shallow p) v true
          exact fin h2 hA ((h2.eval v).strip (g1 (f1 hn.2.2.1))) strip_need (strip_tup.trans (g2.trans (f2.trans hn.2.2.2.1))) hk
    case el p s i j =>
      have h2 := frzRefs_sound (st.eval v).cells st.n0 st h
      obtain ⟨g1, g2⟩ := eval_frzRefs (st.eval v).cells st.n0 st v true
      have e1 : ((frzRefs st.n0 (st.eval v).cells st).ev v).need true := strip_need
      have e2 : ((frzRefs st.n0 (st.eval v).cells st).ev v).isTup = false := strip_tup.trans (g2.trans hn.2.2.2.1)
      exact fin h2 (show RC w _ hs (.el p s i j) _ from hx) ((h2.eval v).strip (g1 hn.2.2.1)) e1 e2 hk
    all_goals exact fin h hx ((h.eval v).strip hn.2.2.1) strip_need (strip_tup.trans hn.2.2.2.1) hk
  case binOp bop t x y yt =>
    obtain ⟨hn, hk⟩ := hk
    cases hsh : (T t).sh <;> simp only [hsh] at hk <;> try exact hk.elim
    case array n e =>
      have hu : P.underlying t = some (.array n e) := hT.sh hsh (by simp)
      have hTe := hT.sub hsh (by simp) (e := e) (by simp [Sh.subs])
      cases hse : (T e).sh <;> simp only [hse] at hk <;> try exact hk.elim
      rename_i ik
      have hue : P.underlying e = some (.int ik) := by
        have := hTe.sh
        rwa [hse] at this
      have hx := h.eval x
      have hy := h.eval y
      cases hex : st.eval x <;> simp only [hex] at hk hx <;> try exact hk.elim
      rename_i xs
      cases hey : st.eval y <;> simp only [hey] at hk hy <;> try exact hk.elim
      rename_i ys
      obtain ⟨arr, ea, ra⟩ := hx
      obtain ⟨brr, eb, rb⟩ := hy
      obtain ⟨hl, hi, hk⟩ := hk
      have hg : P.eqGuardType P.depth t = false := by
        have : P.depth = 2 * (P.types.size + Made.depth) + 1 + 1 := rfl
        rw [this]
        simp only [Program.eqGuardType, hu, hue]
      have hrun := run_equal_ints (P := P) hTe hue (by simp [TI.isAgg, hse]) hu w 9998 hl hi ra rb
      cases bop <;> simp only at hk <;> try exact hk.elim
      · refine (Does.of_value (s := do eqGuard .eql t x y (a.eval x) (a.eval y); binOp .eql t (a.eval x) (a.eval y)) rfl ⟨.bool (intsEq xs ys).2, w, ?_, st, hs, .c (.bool (intsEq xs ys).2), hk, h, rfl⟩).wp
        rw [ea, eb]
        simp [run_eqGuard_agg w .eql t x y arr brr hg, run_eql_struct, hrun]
      · refine (Does.of_value (s := do eqGuard .neq t x y (a.eval x) (a.eval y); binOp .neq t (a.eval x) (a.eval y)) rfl ⟨.bool !(intsEq xs ys).2, w, ?_, st, hs, .c (.bool !(intsEq xs ys).2), hk, h, rfl⟩).wp
        rw [ea, eb]
        simp [run_eqGuard_agg w .neq t x y arr brr hg, run_neq_struct, hrun]
    rename_i e
    have hu : P.underlying t = some (.slice e) := hT.sh hsh (by simp)
    have hy := h.ac rfl hn.2.2.1
    cases hcy : (st.eval y).ac <;> simp only [hcy] at hk hy <;> try exact hk.elim
    simp only [RC] at hy
    have hx := h.ac rfl hn.1
    cases bop <;> simp only at hk <;> try exact hk.elim
    · obtain ⟨b, hr, hK, A, n, c, hv⟩ := nilTest_sound hT h hu hx hk
      refine (Does.of_value (s := do eqGuard .eql t x y (a.eval x) (a.eval y); binOp .eql t (a.eval x) (a.eval y)) rfl ⟨.bool b, w, ?_, st, hs, .c (.bool b), hK, h, rfl⟩).wp
      rw [hv] at hr
      rw [hy, hv]
      simp [eqGuard, binOp, hr]
    · obtain ⟨b, hr, hK, A, n, c, hv⟩ := nilTest_sound hT h hu hx hk
      refine (Does.of_value (s := do eqGuard .neq t x y (a.eval x) (a.eval y); binOp .neq t (a.eval x) (a.eval y)) rfl ⟨.bool !b, w, ?_, st, hs, .c (.bool !b), hK, h, rfl⟩).wp
      rw [hv] at hr
      rw [hy, hv]
      simp [eqGuard, binOp, hr]
  case call c =>
    obtain ⟨callee, args, ats⟩ := c
    cases callee <;> simp only at hk <;> try exact hk.elim
    case value f =>
      obtain ⟨hn, hk⟩ := hk
      have hargs : ∀ (i : Nat) (x : AV) (v : Value), (args.toList.map st.ev)[i]? = some x → (args.map a.eval)[i]? = some v → RV w (avoid F st.objs hs) hs x v := fun i x v hx hv => by
        rw [List.getElem?_map] at hx
        rw [← Array.getElem?_toList, Array.toList_map, List.getElem?_map] at hv
        cases hi : args.toList[i]? with
        | none => rw [hi] at hx; cases hx
        | some y =>
          rw [hi] at hx hv
          cases hx; cases hv
          exact (h.eval y).strip (ned_mem hn y (List.mem_of_getElem? hi)).1
      cases f <;> simp only at hk <;> try exact hk.elim
      case func f =>
        refine call (vals := args.map a.eval) ?_ (by simp) hargs hk
        simp [execOp, resolve, Act.eval, Deferred.ofValue, invoke]
      case tmp t =>
        obtain ⟨hnt, hk⟩ := hk
        have hf := h.ac (x := .tmp t) rfl hnt
        cases hc : (st.eval (.tmp t)).ac <;> simp only [hc] at hk hf <;> try exact hk.elim
        rename_i f caps
        obtain ⟨arr, e1, e2, e3⟩ := hf
        refine call (vals := args.map a.eval ++ arr) ?_ (by simp [e2]) (fun i x v hx hv => ?_) hk
        · simp [execOp, resolve, e1, Deferred.ofValue, invoke]
        · rw [List.getElem?_append] at hx
          rw [Array.getElem?_append] at hv
          simp only [List.length_map, Array.length_toList, Array.size_map] at hx hv
          split at hx
          · rename_i hi; rw [if_pos hi] at hv; exact hargs i x v hx hv
          · rename_i hi
            rw [if_neg hi] at hv
            rw [List.getElem?_map] at hx
            cases hp : caps[i - args.size]? with
            | none => rw [hp] at hx; cases hx
            | some p =>
              rw [hp] at hx
              cases hx
              obtain ⟨b, e4, e5⟩ := e3 _ p hp
              rw [e5] at hv
              cases hv
              exact ⟨b, e4, rfl⟩
    case builtin b =>
      match hargs : args.toList, hk with
      | [x], hk =>
        have hae : args = #[x] := by apply Array.ext'; simpa using hargs
        subst hae
        cases b <;> simp only at hk <;> try exact hk.elim
        case cap =>
          match hats : ats.toList, hk with
          | [t], hk =>
            have hate : ats = #[t] := by apply Array.ext'; simpa using hats
            subst hate
            obtain ⟨hn, hk⟩ := hk
            cases hst : (T t).sh <;> simp only [hst] at hk <;> try exact hk.elim
            have hut := hT.sh hst (by simp)
            simp only [shOK] at hut
            have hx := h.ac (x := x) rfl hn.1
            cases hc : (st.eval x).ac <;> simp only [hc] at hk hx <;> try exact hk.elim
            exact (Does.of_value (s := Builtin.cap_ #[t] ty #[a.eval x]) (by simp [execOp, resolve, invoke, builtin]) ⟨.int .i64 0, w, by simp only [RC] at hx; rw [hx]; simp [Builtin.cap_, run_underlying hut, goInt], st, hs, .c (.int .i64 0), hk, h, rfl⟩).wp
          | [], hk => exact hk.elim
          | _ :: _ :: _, hk => exact hk.elim
        match hats : ats.toList, hk with
        | [t], hk =>
          have hate : ats = #[t] := by apply Array.ext'; simpa using hats
          subst hate
          obtain ⟨hn, hk⟩ := hk
          obtain ⟨w', st', hr, hK, hS⟩ := clear_sound (P := P) (ty := ty) hT h (h.ac rfl hn.1) hk
          exact (Does.of_value (s := Builtin.clear_ #[t] ty #[a.eval x]) (by simp [execOp, resolve, invoke, builtin]) ⟨_, w', hr, st', hs, .tup [], hK, hS, ⟨#[], rfl, rfl, fun i p u hp => by simp at hp⟩⟩).wp
        | [], hk => exact hk.elim
        | _ :: _ :: _, hk => exact hk.elim
      | [s, x], hk =>
        have hae : args = #[s, x] := by apply Array.ext'; simpa using hargs
        subst hae
        cases b <;> simp only at hk <;> try exact hk.elim
        case delete =>
          match hats : ats.toList, hk with
          | [t, t2], hk =>
            have hate : ats = #[t, t2] := by apply Array.ext'; simpa using hats
            subst hate
            obtain ⟨hn, hk⟩ := hk
            obtain ⟨w', st', hr, hK, hS⟩ := mapDelete_sound (P := P) (t2 := t2) (ty := ty) hT h (h.ac rfl hn.1) ((h.eval x).strip hn.2.2.1) strip_need hk
            exact (Does.of_value (s := Builtin.delete_ #[t, t2] ty #[a.eval s, a.eval x]) (by simp [execOp, resolve, invoke, builtin]) ⟨_, w', hr, st', hs, .tup [], hK, hS, ⟨#[], rfl, rfl, fun i p u hp => by simp at hp⟩⟩).wp
          | [], hk => exact hk.elim
          | [_], hk => exact hk.elim
          | _ :: _ :: _ :: _, hk => exact hk.elim
        case copy =>
          match hats : ats.toList, hk with
          | [t, t2], hk =>
            have hate : ats = #[t, t2] := by apply Array.ext'; simpa using hats
            subst hate
            obtain ⟨hn, hk⟩ := hk
            exact (Does.of_value (s := Builtin.copy_ #[t, t2] ty #[a.eval s, a.eval x]) (by simp [execOp, resolve, invoke, builtin]) (copy_sound (P := P) (u := t2) (ty := ty) hT h (h.ac rfl hn.1) (h.ac rfl hn.2.2.1) hk)).wp
          | [], hk => exact hk.elim
          | [_], hk => exact hk.elim
          | _ :: _ :: _ :: _, hk => exact hk.elim
        match hats : ats.toList, hk with
        | [t, u], hk =>
          have hate : ats = #[t, u] := by apply Array.ext'; simpa using hats
          subst hate
          obtain ⟨hn, hk⟩ := hk
          by_cases hint : ∃ k, (T u).sh = .int k
          · obtain ⟨k, hint⟩ := hint
            simp only [hint] at hk
            exact (Does.of_value (s := Builtin.append_ #[t, u] ty #[a.eval s, a.eval x]) (by simp [execOp, resolve, invoke, builtin]) (zeros_sound hT h ⟨k, hT.sh hint (by simp)⟩ (h.ac rfl hn.1) (h.ac rfl hn.2.2.1) hk)).wp
          have hu : ((∃ e', P.underlying u = some (.slice e')) ∨ P.underlying u = some .string) ∧ (aappend T st dst t (st.eval s).ac (st.eval x).ac K ∨ ∃ p, (st.eval x).ac = .xr p .whole ∧ aappRows T st dst t (st.eval s).ac p K) := by
            cases hsu : (T u).sh <;> simp only [hsu] at hk <;> try exact hk.elim
            · exact absurd ⟨_, hsu⟩ hint
            · exact ⟨.inr (hT.sh hsu (by simp)), .inl hk⟩
            · refine ⟨.inl ⟨_, hT.sh hsu (by simp)⟩, ?_⟩
              cases har : appRows st (st.eval x).ac with
              | none => rw [har] at hk; exact .inl hk
              | some p =>
                rw [har] at hk
                refine .inr ⟨p, ?_, hk⟩
                unfold appRows at har
                cases hc : (st.eval x).ac <;> simp only [hc] at har <;> try (cases har; done)
                rename_i p' r
                cases r <;> simp only at har <;> try (cases har; done)
                cases hob : st.obj p' <;> simp only [hob] at har <;> cases har
                rfl
          rcases hu.2 with hk | ⟨p, e1, hk⟩
          · exact (Does.of_value (s := Builtin.append_ #[t, u] ty #[a.eval s, a.eval x]) (by simp [execOp, resolve, invoke, builtin]) (append_sound hT h hu.1 (h.ac rfl hn.1) (h.ac rfl hn.2.2.1) hk)).wp
          · have hx := h.ac (x := x) rfl hn.2.2.1
            rw [e1] at hx
            exact (Does.of_value (s := Builtin.append_ #[t, u] ty #[a.eval s, a.eval x]) (by simp [execOp, resolve, invoke, builtin]) (appRows_sound hT h hu.1 (h.ac rfl hn.1) hx hk)).wp
        | [], hk => exact hk.elim
        | [_], hk => exact hk.elim
        | _ :: _ :: _ :: _, hk => exact hk.elim
      | [], hk => exact hk.elim
      | _ :: _ :: _ :: _, hk => exact hk.elim

/-! ### Regions -/
def ndS (F : Fr) (K : ASt → Prop) : Act → World → Prop := fun a w => ∃ st hs, K st ∧ Sim F st hs a w

theorem guardOf_sound (h : Sim F st hs a w) {ops : Array Oper} {j : Nat} {want : Bool} {g : Bool} (hg : guardOf ops st j want = some g) : (yielded ops a.tmps j == some want) = g := by
  unfold guardOf at hg
  have e : (ops.toList[j]?).bind (·.dst) = (ops[j]?).bind (·.dst) := by simp
  rw [e] at hg
  cases hd : (ops[j]?).bind (·.dst) with
  | none => rw [hd] at hg; cases hg
  | some d =>
    rw [hd] at hg
    have hev := h.eval (.tmp d)
    simp only [ASt.eval, Act.eval] at hev
    have hy : ∀ b, a.tmps.getD d undef = .bool b → yielded ops a.tmps j = some b := fun b hb => by
      unfold yielded
      rw [hd]
      simp only [Option.bind_some]
      rw [Array.getD_eq_getD_getElem?] at hb
      cases ht : a.tmps[d]? with
      | none => rw [ht] at hb; simp [undef] at hb
      | some v => rw [ht] at hb; simp at hb; subst hb; rfl
    have hy0 : a.tmps.getD d undef = undef → yielded ops a.tmps j = none := fun hb => by
      unfold yielded
      rw [hd]
      simp only [Option.bind_some]
      rw [Array.getD_eq_getD_getElem?] at hb
      cases ht : a.tmps[d]? with
      | none => rfl
      | some v => rw [ht] at hb; simp at hb; subst hb; rfl
    simp only at hg
    cases hs1 : st.slots.getD d (.c .junk) with
    | c x =>
      rw [hs1] at hg hev
      cases x <;> simp only at hg <;> try cases hg
      rename_i b
      rw [hy b hev]
      cases b <;> cases want <;> rfl
    | on k x =>
      rw [hs1] at hg hev
      cases k with
      | true =>
        cases x <;> simp only at hg <;> try cases hg
        rename_i b
        rw [hy b (hev.1 rfl)]
        cases b <;> cases want <;> rfl
      | false =>
        rw [hy0 (hev.2 rfl)]
        have hgf : g = false := by cases x <;> simp at hg <;> first | exact hg | exact hg.symm
        rw [hgf]
        rfl
    | agg => rw [hs1] at hg; cases hg
    | tup => rw [hs1] at hg; cases hg

theorem wanted_none {o : Oper} (h : o.guard = none) {y : Nat → Option Bool} : Region.wanted o y = true := by simp [Region.wanted, h]
theorem wanted_some {o : Oper} {p : Nat × Bool} (h : o.guard = some p) {y : Nat → Option Bool} : Region.wanted o y = (y p.1 == some p.2) := by simp [Region.wanted, h]

theorem quiet_wp (hT : TabOK P T) (h : Sim F st hs a w) {o : Oper} {g : Bool} (hg : g = true) (hq : (qop T st g o).1) {K : Act → World → Prop} {Q : Exit → Act → World → Prop}
    (hK : ∀ v, RV w (avoid F st.objs hs) hs (qop T st g o).2 v → K (a.put o.dst v) w) : o.wp P a w K Q := by
  obtain ⟨v, h1, h2⟩ := qop_sound (P := P) hT h hg hq
  unfold Oper.wp
  rw [h1]
  exact hK v h2

theorem onG_sound {O : Nat → Prop} {g : Bool} (hg : g = true) {x : AV} {v : Value} (h : RV w O hs x v) (hn : x.need true) : RV w O hs (onG g x) v := by
  subst hg
  cases x with
  | agg cs => exact h
  | c x => exact ⟨fun _ => h.ac rfl hn, fun e => by cases e⟩
  | on k x => exact ⟨fun _ => h.ac rfl hn, fun e => by cases e⟩
  | tup vs => exact ⟨fun _ => h.ac rfl hn, fun e => by cases e⟩
theorem onG_false {O : Nat → Prop} (x : AV) : RV w O hs (onG false x) undef := by
  cases x with
  | agg cs => exact trivial
  | c x => exact ⟨fun e => (by cases e), fun _ => rfl⟩
  | on k x => exact ⟨fun e => (by cases e), fun _ => rfl⟩
  | tup vs => exact ⟨fun e => (by cases e), fun _ => rfl⟩

theorem ofCells_need {b : Bool} {cs : List AC} {g : Bool} : (ofCells b cs).need g := by cases b <;> exact trivial
theorem qop_need {o : Oper} {g : Bool} (h : (qop T st g o).1) : (qop T st g o).2.need g := by
  obtain ⟨dst, op, ty, pos, after, guard⟩ := o
  cases op <;> simp only [qop] at h ⊢ <;> try exact trivial
  case move x => exact h
  case assign x => exact h
  case pick c x y => cases hc : (st.eval c).ac <;> simp only <;> exact trivial
  case field s x f =>
    cases hx : st.eval x <;> simp only <;> try exact trivial
    unfold qfield
    cases (T s).sh <;> simp only <;> try exact trivial
    rename_i fs
    cases fs[f]? <;> simp only <;> first | exact trivial | exact ofCells_need
  case index t x ix =>
    unfold qindex
    cases (st.eval ix).ac <;> simp only <;> try exact trivial
    cases (T t).sh <;> simp only <;> try exact trivial
    · cases (st.eval x).ac <;> simp only <;> exact trivial
    · cases st.eval x <;> simp only <;> first | exact trivial | exact ofCells_need
  case load t x =>
    unfold qload
    cases (st.eval x).ac <;> simp only <;> try exact trivial
    · exact ofCells_need
    · cases st.obj _ <;> simp only <;> first | exact trivial | exact ofCells_need
    · cases st.obj _ <;> simp only <;> first | exact trivial | exact ofCells_need
    · cases st.obj _ <;> simp only <;> try exact trivial
      rename_i r xo
      cases xo <;> simp only <;> try exact trivial
      cases r <;> simp only <;> first | exact trivial | exact ofCells_need
  case lookup t m k ok =>
    unfold qlookup
    cases (T t).sh <;> simp only <;> try exact trivial
    cases (st.eval m).ac <;> simp only <;> try exact trivial
    case md =>
      unfold lookRes
      cases ok <;> simp only <;> first | exact trivial | exact ofCells_need
    rename_i o r
    cases r <;> simp only <;> try exact trivial
    cases st.obj o <;> simp only <;> try exact trivial
    rename_i xo
    cases xo <;> simp only <;> try exact trivial
    unfold lookRes
    cases ok <;> simp only <;> first | exact trivial | exact ofCells_need
  case entry x =>
    unfold qentry
    cases (st.eval x).ac <;> simp only <;> try exact trivial
    rename_i o r
    cases r <;> simp only <;> try exact trivial
    cases st.obj o <;> simp only <;> try exact trivial
    rename_i xo
    cases xo <;> simp only <;> try exact trivial
    rename_i m b c d
    cases m <;> simp only <;> try exact trivial
    rename_i o2 r2
    cases r2 <;> simp only <;> try exact trivial
    cases st.obj o2 <;> simp only <;> try exact trivial
    rename_i xo
    cases xo <;> simp only <;> try exact trivial
    cases c.getLast? <;> simp only <;> try exact trivial
    cases List.find? _ _ <;> exact trivial
  case slice t x lo hi mx => cases mx <;> simp only <;> exact trivial
  case extract x i =>
    unfold qextract
    cases st.eval x <;> simp only <;> try exact trivial
    rename_i vs
    cases vs[i]? <;> simp only <;> try exact trivial
    rename_i p
    cases p.1 <;> exact trivial
  case build t ps =>
    unfold qbuild
    cases (T t).sh <;> simp only <;> exact trivial
  case nilCheck x => cases (st.eval x).ac <;> simp only <;> exact trivial
  case makeFunc f first caps =>
    cases f <;> simp only <;> try exact trivial
    cases first.toList <;> simp only <;> try exact trivial
    cases capsOf (caps.toList.map st.eval) <;> simp only <;> exact trivial
  case call c =>
    obtain ⟨callee, args, ats⟩ := c
    cases callee <;> simp only <;> try exact trivial
    rename_i b
    match args.toList with
    | [] => exact trivial
    | [x] =>
      cases b <;> simp only <;> try exact trivial
      cases ats.toList <;> simp only <;> try exact trivial
      cases (T _).sh <;> simp only <;> try exact trivial
      cases (st.eval x).ac <;> simp only <;> exact trivial
    | [x, y] => cases b <;> simp only <;> exact trivial
    | [x, y, z] => cases b <;> simp only <;> exact trivial
    | _ :: _ :: _ :: _ :: _ => exact trivial

theorem aops_sound (hT : TabOK P T) {ops : Array Oper} {Q : Exit → Act → World → Prop} {K : ASt → Prop} (hKQ : ∀ st hs a w, K st → Sim F st hs a w → Q .normal a w) :
    ∀ (l : List Oper) (st : ASt) (hs : Nat → Value) (a : Act) (w : World), Sim F st hs a w → aops (CallAt P) T ops l st K → wpList P ops Q l a w
  | [], st, hs, a, w, h, hk => hKQ st hs a w hk h
  | o :: l, st, hs, a, w, h, hk => by
    simp only [aops] at hk
    unfold wpList
    cases hgd : o.guard with
    | none =>
      rw [if_pos (wanted_none hgd)]
      simp only [hgd] at hk
      refine .inl ?_
      cases hq : isQuiet T o.op with
      | true =>
        simp only [hq] at hk
        exact quiet_wp hT h rfl hk.1 fun v hv => aops_sound hT hKQ l _ hs _ w (h.put o.dst hv) hk.2
      | false =>
        simp only [hq] at hk
        exact Oper.wp_mono (fun a' w' ⟨st', hs', hK, hS⟩ => aops_sound hT hKQ l st' hs' a' w' hS hK) (aop_sound hT h hk)
    | some p =>
      rw [wanted_some hgd]
      simp only [hgd] at hk
      cases hgo : guardOf ops st p.1 p.2 with
      | none => rw [hgo] at hk; exact hk.elim
      | some g =>
        rw [hgo] at hk
        rw [guardOf_sound h hgo]
        cases hq : isQuiet T o.op with
        | true =>
          simp only [hq] at hk
          cases g with
          | true =>
            simp only [if_true]
            exact .inl (quiet_wp hT h rfl (hk.1 rfl) fun v hv => aops_sound hT hKQ l _ hs _ w (h.put o.dst (onG_sound rfl hv (qop_need (hk.1 rfl)))) hk.2)
          | false =>
            simp only [Bool.false_eq_true, if_false]
            exact aops_sound hT hKQ l _ hs _ w (h.put o.dst (av := onG false (qop T st false o).2) (onG_false _)) hk.2
        | false =>
          simp only [hq] at hk
          cases g with
          | true =>
            simp only [if_true]
            exact .inl (Oper.wp_mono (fun a' w' ⟨st', hs', hK, hS⟩ => aops_sound hT hKQ l st' hs' a' w' hS hK) (aop_sound hT h (hk.1 rfl)))
          | false =>
            simp only [Bool.false_eq_true, if_false]
            exact aops_sound hT hKQ l _ hs _ w (h.put o.dst (av := .c .junk) trivial) (hk.2 rfl)
end
end Go.Vc
