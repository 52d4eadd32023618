/- Own rows become data where a loop ends. -/
import Derived.Test.YtcjcfpbbhmhlbaaV27
set_option linter.unusedVariables false
namespace Go.Vc
section
variable {P : Program} {st : ASt}
theorem AWP.thenFreeze {c : Code} {Q : Exit → ASt → Prop} (o : Nat) (h : AWP P c (fun e st' => Q e (st'.freeze o)) st) : AWP P c Q st :=
  fun F hs a w hS => wp_mono (h F hs a w hS) fun e a w hQ => by
    cases e with
    | outgrown => exact hQ.elim
    | panic c => exact hQ.elim
    | _ => obtain ⟨st', hs', h1, h2⟩ := hQ; exact ⟨st'.freeze o, hs', h1, h2.freeze o⟩
/-- a loop behind which an own row becomes data at once -/
theorem LoopAt.thenFreeze {body : Code} {Q : Exit → ASt → Prop} (o : Nat) (h : LoopAt P body (fun e st' => Q e (st'.freeze o)) st) : LoopAt P body Q st := AWP.thenFreeze o h
/-- all orders that a region may draw lead to one state -/
theorem DrawAt.to {id : Nat} {ops : Array Oper} {K : ASt → Prop} {st1 : ASt} (h : DrawAt P id ops st (fun st' => st' = st1)) (hk : K st1) : DrawAt P id ops st K :=
  AWP.mono h fun e st' hq => by
    cases e <;> first | exact hq.elim | (cases hq; exact hk)
/-- a call from a state of which less is told -/
theorem CallAt.less {f : FuncId} {args : List AV} {st st' : ASt} {K : AV → ASt → Prop} (hl : LessC { st with slots := st.slots ++ args } { st' with slots := st'.slots ++ args }) (h : CallAt P f args st' K) : CallAt P f args st K := by
  intro F hs a w vals hS hlv hargs
  obtain ⟨hs', hS'⟩ := (hS.more hlv hargs).less hl.less
  have hsz : a.tmps.size = st'.slots.length := by
    have h1 := hS'.len
    have h2 : (a.tmps ++ vals).size = (st'.slots ++ args).length := h1
    rw [Array.size_append, List.length_append, hlv] at h2
    omega
  refine h F hs' a w vals (hS'.fewer hsz) hlv fun i x v hx hv => ?_
  exact hS'.slots (st'.slots.length + i) x v
    (by show (st'.slots ++ args)[st'.slots.length + i]? = _; rw [List.getElem?_append_right (by omega), Nat.add_sub_cancel_left]; exact hx)
    (by show (a.tmps ++ vals)[st'.slots.length + i]? = _; rw [Array.getElem?_append_right (by rw [hsz]; omega), hsz, Nat.add_sub_cancel_left]; exact hv)
/-- slots from lo to hi are forgotten, objects from m on dropped -/
def blank (lo hi m : Nat) (st : ASt) : ASt := { slots := st.slots.take lo ++ (List.replicate (hi - lo) (.c .junk) ++ st.slots.drop hi), objs := st.objs.take m, n0 := st.n0 }
theorem CallAt.blank {f : FuncId} {args : List AV} {K : AV → ASt → Prop} (lo hi m : Nat) (hl : LessC { st with slots := st.slots ++ args } { Vc.blank lo hi m st with slots := (Vc.blank lo hi m st).slots ++ args }) (h : CallAt P f args (Vc.blank lo hi m st) K) : CallAt P f args st K := CallAt.less hl h
theorem share {A B : Prop} (h : A → B) (k : A) : B := h k
theorem RCs.nilCell {w : World} {O : Nat → Prop} {hs : Nat → Value} {cs : List AC} {vs : List Value} (j size : Nat) (α : Type) (z : α) (enc : α → List DV) (hj : cs[j]? = some .nil) (h : RCs w O hs cs vs) : RCs w O hs (cs.set j (.rd size α z enc [])) vs := by
  refine ⟨by rw [h.1, List.length_set], fun i x v hx hv => ?_⟩
  rw [List.getElem?_set] at hx
  split at hx
  · rename_i e
    subst e
    split at hx
    · cases hx
      exact nil_rd (hs := hs) (h.2 _ _ v hj hv)
    · cases hx
  · exact h.2 i x v hx hv
/-- a nil slice in a struct among the arguments is an empty list -/
theorem CallAt.nilCell {f : FuncId} {args : List AV} {K : AV → ASt → Prop} (k j size : Nat) (α : Type) (z : α) (enc : α → List DV) {cs : List AC} (hk : args[k]? = some (.agg cs)) (hj : cs[j]? = some .nil)
    (h : CallAt P f (args.set k (.agg (cs.set j (.rd size α z enc [])))) st K) : CallAt P f args st K := by
  refine h.args (by simp) fun i x y hx hy w O hs v hr => ?_
  rw [List.getElem?_set] at hx
  split at hx
  · rename_i e
    subst e
    rw [hk] at hy
    cases hy
    split at hx
    · cases hx
      obtain ⟨arr, e1, e2⟩ := hr
      exact ⟨arr, e1, e2.nilCell j size α z enc hj⟩
    · cases hx
  · rw [hy] at hx
    cases hx
    exact hr
end
end Go.Vc
