/- A whole row told as a part of itself. -/
import Derived.Test.YtcjcfpbbhmhlbaaV25
set_option linter.unusedVariables false
set_option linter.unusedSimpArgs false
namespace Go.Vc
section
variable {P : Program} {T : Tab} {F : Fr} {st : ASt} {hs : Nat → Value} {a : Act} {w : World}
/-- the slot i, that holds a whole own row, as a part of it -/
def asPart (st : ASt) (i : Nat) : ASt := match st.slots[i]? with
  | some x => match x with
    | .c x => match x with
      | .sl o => match st.obj o with
        | .row _ size _ _ _ xs => bif xs.isEmpty then st else { st with slots := st.slots.set i (.c (.sub o size 0 xs.length)) }
        | _ => st
      | _ => st
    | _ => st
  | none => st
theorem Sim.asPart (h : Sim F st hs a w) (i : Nat) : Sim F (asPart st i) hs a w := by
  unfold Vc.asPart
  cases hi : st.slots[i]? with
  | none => exact h
  | some x =>
    cases x <;> simp only <;> try exact h
    rename_i x
    cases x <;> simp only <;> try exact h
    rename_i o
    cases hob : st.obj o <;> simp only <;> try exact h
    rename_i ty size α z enc xs
    cases hx : xs.isEmpty with
    | true => exact h
    | false =>
      have ho := obj_some hob (by simp)
      have hpos : 0 < xs.length := by cases xs with
        | nil => cases hx
        | cons _ _ => simp
      obtain ⟨henc, vs, hrow, _⟩ := h.good.rel o _ ho
      refine { h with len := by simp [h.len], slots := fun j av v hj hv => ?_ }
      simp only [cond_false] at hj
      rw [List.getElem?_set] at hj
      by_cases hij : i = j
      · subst hij
        rw [if_pos rfl] at hj
        split at hj
        · cases hj
          have hv0 : v = hs o ∧ isSl (hs o) = true := h.slots i _ v hi hv
          rcases hrow.2 with ⟨e1, e2⟩ | ⟨g, cap, cur, e, h0, hg, r⟩
          · omega
          · refine .inr ⟨by omega, g, xs.length, cap, cap, e, by rw [hv0.1, e]; simp, ?_, ?_, hpos, by omega, ?_⟩
            all_goals (obtain ⟨r1, r2, _⟩ := r; omega)
        · cases hj
      · rw [if_neg hij] at hj
        exact h.slots j av v hj hv
theorem AWP.asPart {c : Code} {Q : Exit → ASt → Prop} {st : ASt} (i : Nat) (h : AWP P c Q (Vc.asPart st i)) : AWP P c Q st := fun F hs a w hS => h F hs a w (hS.asPart i)
theorem LoopAt.asPart {body : Code} {Q : Exit → ASt → Prop} {st : ASt} (i : Nat) (h : LoopAt P body Q (Vc.asPart st i)) : LoopAt P body Q st := AWP.asPart i h
end
end Go.Vc
