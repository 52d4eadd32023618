/- Code: sequences, branches, blocks; loops by an invariant; bodies of functions. -/
import Derived.Test.YtcjcfpbbhmhlbaaV12
import Derived.Tactics
set_option linter.unusedVariables false
set_option linter.unusedSimpArgs false
namespace Go.Vc
section
variable {P : Program} {T : Tab}


def LoopAt (P : Program) (body : Code) (Q : Exit → ASt → Prop) (st : ASt) : Prop := AWP P (.loop body) Q st
def DrawAt (P : Program) (id : Nat) (ops : Array Oper) (st : ASt) (K : ASt → Prop) : Prop := AWP P (.region id ops true) (fun e st => match e with | .normal => K st | _ => False) st

/-- the condition of a code -/
abbrev VCp (P : Program) (T : Tab) : Code → (Exit → ASt → Prop) → ASt → Prop := VC (CallAt P) (LoopAt P) (DrawAt P) T

theorem AWP.mono {c : Code} {Q Q' : Exit → ASt → Prop} {st : ASt} (h : AWP P c Q st) (hq : ∀ e st, Q e st → Q' e st) : AWP P c Q' st :=
  fun F hs a w hS => wp_mono (h F hs a w hS) fun e a w hQ => by
    cases e with
    | outgrown => exact hQ.elim
    | panic c => exact hQ.elim
    | _ => obtain ⟨st', hs', h1, h2⟩ := hQ; exact ⟨st', hs', hq _ _ h1, h2⟩

theorem VC_sound (hT : TabOK P T) : ∀ (c : Code) (Q : Exit → ASt → Prop) (st : ASt), VCp P T c Q st → AWP P c Q st
  | .skip, Q, st, h => fun F hs a w hS => wp_skip ⟨st, hs, h, hS⟩
  | .label _, Q, st, h => fun F hs a w hS => wp_label ⟨st, hs, h, hS⟩
  | .region id ops draw, Q, st, h => by
    cases draw with
    | false => exact fun F hs a w hS => wp_region_list (aops_sound hT (fun st hs a w hK hS => ⟨st, hs, hK, hS⟩) _ st hs a w hS h)
    | true => exact AWP.mono h fun e st hQ => by cases e <;> first | exact hQ | exact hQ.elim
  | .seq x y, Q, st, h => fun F hs a w hS => wp_seq (wp_mono (VC_sound hT x _ st h F hs a w hS) fun e a w hQ => by
      cases e with
      | outgrown => exact hQ.elim
      | panic c => exact hQ.elim
      | normal => obtain ⟨st', hs', h1, h2⟩ := hQ; exact VC_sound hT y Q st' h1 F hs' a w h2
      | exit i => obtain ⟨st', hs', h1, h2⟩ := hQ; exact ⟨st', hs', h1, h2⟩
      | ret => obtain ⟨st', hs', h1, h2⟩ := hQ; exact ⟨st', hs', h1, h2⟩
      | goto l => obtain ⟨st', hs', h1, h2⟩ := hQ; exact h1.elim)
  | .cond c x y, Q, st, h => fun F hs a w hS => by
    have hc := hS.eval c
    simp only [VCp, VC] at h
    cases hev : st.eval c <;> simp only [hev] at h hc <;> try exact h.elim
    rename_i ac
    cases ac <;> simp only at h <;> try exact h.elim
    rename_i t
    exact wp_cond_split hc (fun ht => VC_sound hT x Q st (h.1 ht) F hs a w hS) fun ht => VC_sound hT y Q st (h.2 ht) F hs a w hS
  | .block id x, Q, st, h => fun F hs a w hS => wp_block (wp_mono (VC_sound hT x _ st h F hs a w hS) fun e a w hQ => by
      cases e with
      | outgrown => exact hQ.elim
      | panic c => exact hQ.elim
      | normal => exact hQ
      | exit i =>
        obtain ⟨st', hs', h1, h2⟩ := hQ
        simp only [Exit.inBlock]
        simp only at h1
        by_cases hi : i = id
        · rw [if_pos hi] at h1 ⊢; exact ⟨st', hs', h1, h2⟩
        · rw [if_neg hi] at h1 ⊢; exact ⟨st', hs', h1, h2⟩
      | ret => exact hQ
      | goto l => obtain ⟨st', hs', h1, h2⟩ := hQ; exact h1.elim)
  | .loop x, Q, st, h => h
  | .exit id, Q, st, h => fun F hs a w hS => wp_exit ⟨st, hs, h, hS⟩
  | .ret, Q, st, h => fun F hs a w hS => wp_ret ⟨st, hs, h, hS⟩
  | .rangeFunc .., Q, st, h => h.elim
  | .scope _, Q, st, h => h.elim
  | .goto _, Q, st, h => h.elim
  | .refuse _, Q, st, h => h.elim

/-! ### Less known: slots forgotten, the last objects dropped -/
/-- what refers to an object from n on -/
def AC.below (n : Nat) : AC → Bool
  | .ptr o _ => o < n
  | .sl o => o < n
  | .sub o _ _ _ => o < n
  | .el o _ _ _ => o < n
  | .xr o _ => o < n
  | .fn _ caps => caps.all fun p => p.1 < n
  | _ => true
def AV.below (n : Nat) : AV → Bool
  | .c x => x.below n
  | .agg cs => cs.all (AC.below n)
  | .tup vs => vs.all fun p => p.2.all (AC.below n)
  | .on _ x => x.below n
def XObj.below (n : Nat) : XObj → Bool
  | .iter m _ _ _ => m.below n
  | _ => true
def AObj.below (n : Nat) : AObj → Bool
  | .cells _ cs => cs.all (AC.below n)
  | .ext x => x.below n
  | _ => true

theorem RC.cut {w : World} {O O' : Nat → Prop} {hs hs' : Nat → Value} {n : Nat} (hh : ∀ o, o < n → hs' o = hs o) {x : AC} (hb : x.below n = true) {v : Value} (h : RC w O hs x v)
    (hO : ∀ b, b < w.heap.size → ¬ O b → w.heap[b]? = w.heap[b]? ∧ ¬ O' b) : RC w O' hs' x v := by
  refine (RC.mono (Nat.le_refl _) hO h).handles fun o ho => hh o ?_
  cases x <;> simp only [AC.refs, List.mem_singleton, List.not_mem_nil] at ho <;> simp only [AC.below, decide_eq_true_eq] at hb
  case ptr => subst ho; exact hb
  case sl => subst ho; exact hb
  case sub => subst ho; exact hb
  case el => subst ho; exact hb
  case xr => subst ho; exact hb
  case fn f caps =>
    obtain ⟨p, hp, rfl⟩ := List.mem_map.1 ho
    have := List.all_eq_true.1 hb p hp
    simpa using this
theorem RCs.cut {w : World} {O O' : Nat → Prop} {hs hs' : Nat → Value} {n : Nat} (hh : ∀ o, o < n → hs' o = hs o) {cs : List AC} (hb : (cs.all (AC.below n)) = true) {vs : List Value} (h : RCs w O hs cs vs)
    (hO : ∀ b, b < w.heap.size → ¬ O b → w.heap[b]? = w.heap[b]? ∧ ¬ O' b) : RCs w O' hs' cs vs :=
  ⟨h.1, fun i x v hx hv => RC.cut hh (List.all_eq_true.1 hb x (List.mem_of_getElem? hx)) (h.2 i x v hx hv) hO⟩
theorem RV.cut {w : World} {O O' : Nat → Prop} {hs hs' : Nat → Value} {n : Nat} (hh : ∀ o, o < n → hs' o = hs o) {x : AV} (hb : x.below n = true) {v : Value} (h : RV w O hs x v)
    (hO : ∀ b, b < w.heap.size → ¬ O b → w.heap[b]? = w.heap[b]? ∧ ¬ O' b) : RV w O' hs' x v := by
  cases x with
  | c x => exact RC.cut hh hb h hO
  | agg cs => obtain ⟨arr, e, hr⟩ := h; exact ⟨arr, e, RCs.cut hh hb hr hO⟩
  | on g x => exact ⟨fun hg => RC.cut hh hb (h.1 hg) hO, h.2⟩
  | tup vs =>
    obtain ⟨arr, e, hl, hr⟩ := h
    refine ⟨arr, e, hl, fun i p u hp hu => ?_⟩
    have hb' := List.all_eq_true.1 hb p (List.mem_of_getElem? hp)
    have := hr i p u hp hu
    obtain ⟨g, cs⟩ := p
    cases g
    · intro x hx
      simp only at hb'
      subst hx
      exact RC.cut hh (by simpa using hb') (this x rfl) hO
    · obtain ⟨arr', e', hr'⟩ := this
      exact ⟨arr', e', RCs.cut hh hb' hr' hO⟩

/-- st' says less than st: each slot is as it was or forgotten; the objects are the first of them -/
structure Less (st st' : ASt) : Prop where
  slots : st'.slots.length = st.slots.length ∧ ∀ (i : Nat) (x : AV), st'.slots[i]? = some x → st.slots[i]? = some x ∨ x = .c .junk
  objs : st'.objs = st.objs.take st'.objs.length
  n0 : st'.n0 = st.n0 ∧ st'.n0 ≤ st'.objs.length
  sl : (st'.slots.all (AV.below st'.objs.length)) = true
  ob : (st'.objs.all (AObj.below st'.objs.length)) = true

theorem Sim.less {F : Fr} {st st' : ASt} {hs : Nat → Value} {a : Act} {w : World} (h : Sim F st hs a w) (hl : Less st st') : ∃ hs', Sim F st' hs' a w := by
  obtain ⟨⟨h1, h2⟩, h3, ⟨h4, h4'⟩, h5, h6⟩ := hl
  let n := st'.objs.length
  let hs' : Nat → Value := fun o => if o < n then hs o else .nilFunc
  have hh : ∀ o, o < n → hs' o = hs o := fun o ho => by simp [hs', ho]
  have look : ∀ (o : Nat) (ob : AObj), st'.objs[o]? = some ob → o < n ∧ st.objs[o]? = some ob := fun o ob ho => by
    have hlt : o < n := (List.getElem?_eq_some_iff.1 ho).1
    refine ⟨hlt, ?_⟩
    rw [h3, List.getElem?_take, if_pos hlt] at ho
    exact ho
  have hown : ∀ b, own st'.objs hs' b → own st.objs hs b := fun b ⟨o, ob, ho, hf⟩ => by
    obtain ⟨h7, h8⟩ := look o ob ho
    rw [hh o h7] at hf
    exact ⟨o, ob, h8, hf⟩
  have hO : ∀ b, b < w.heap.size → ¬ avoid F st.objs hs b → w.heap[b]? = w.heap[b]? ∧ ¬ avoid F st'.objs hs' b := fun b hb hn => ⟨rfl, fun hA => hn (hA.imp (hown b) id)⟩
  refine ⟨hs', by rw [h.len, h1], fun i x v hx hv => ?_, ⟨fun o ob ho => ?_, fun o p ob ob' b ho hp hf hf' => ?_⟩, h.defers, h.keep, fun b hb => h.ownb b (hown b hb), fun o ho => ?_, h.fx, fun o ho => ?_, h4'⟩
  · rcases h2 i x hx with h7 | rfl
    · exact RV.cut hh (List.all_eq_true.1 h5 x (List.mem_of_getElem? hx)) (h.slots i x v h7 hv) hO
    · exact trivial
  · obtain ⟨h7, h8⟩ := look o ob ho
    rw [hh o h7]
    have hr := h.good.rel o ob h8
    have hb := List.all_eq_true.1 h6 ob (List.mem_of_getElem? ho)
    cases ob with
    | ext x => exact XObj.imp_m (fun m a b c e v hr => RC.cut hh (by subst e; exact hb) hr hO) (fun hr => RD.mono (Nat.le_refl _) hO hr) (fun _ _ => rfl) hr
    | gone => exact trivial
    | cells ty cs => obtain ⟨b, vals, e, hb', hcs⟩ := hr; exact ⟨b, vals, e, hb', RCs.cut hh hb hcs hO⟩
    | row ty size α z enc xs => exact RO.mono (hs := hs) (Nat.le_refl _) hO hr fun _ _ => rfl
  · obtain ⟨h7, h8⟩ := look o ob ho
    obtain ⟨h9, h10⟩ := look p ob' hp
    rw [hh o h7] at hf
    rw [hh p h9] at hf'
    exact h.good.disj o p ob ob' b h8 h10 hf hf'
  · rw [hh o (Nat.lt_of_lt_of_le ho h4')]; exact h.fix o (by omega)
  · simp only [hs']
    rw [if_neg (by omega)]

theorem AWP.less {c : Code} {Q : Exit → ASt → Prop} {st st' : ASt} (h : AWP P c Q st') (hl : Less st st') : AWP P c Q st := fun F hs a w hS =>
  let ⟨hs', hS'⟩ := hS.less hl
  h F hs' a w hS'
end
end Go.Vc
