/- Regions that draw their order, whose operations only look. -/
import Derived.Test.YtcjcfpbbhmhlbaaV18
import Derived.Still
set_option linter.unusedVariables false
set_option linter.unusedSimpArgs false
namespace Go.Vc
section
variable {P : Program} {T : Tab}
/-- operations that only look, in index order -/
def qaops (T : Tab) (ops : Array Oper) : List Oper → ASt → (ASt → Prop) → Prop
  | [], st, K => K st
  | o :: os, st, K =>
    match o.guard with
    | none => match isQuiet T o.op with
      | true => (qop T st true o).1 ∧ qaops T ops os (st.put o.dst (qop T st true o).2) K
      | false => False
    | some w => match guardOf ops st w.1 w.2 with
      | some g => match isQuiet T o.op with
        | true => (g = true → (qop T st g o).1) ∧ qaops T ops os (st.put o.dst (onG g (qop T st g o).2)) K
        | false => False
      | none => False

theorem quiet_still (hT : TabOK P T) {F : Fr} {st : ASt} {hs : Nat → Value} {a : Act} {w : World} (h : Sim F st hs a w) {o : Oper} {g : Bool} (hg : g = true) (hq : (qop T st g o).1) {K : Act → Prop}
    (hK : ∀ v, RV w (avoid F st.objs hs) hs (qop T st g o).2 v → K (a.put o.dst v)) : o.still P a w K := by
  obtain ⟨v, h1, h2⟩ := qop_sound (P := P) hT h hg hq
  unfold Oper.still
  rw [h1]
  exact ⟨rfl, hK v h2⟩

theorem qaops_sound (hT : TabOK P T) {ops : Array Oper} {F : Fr} {w : World} {Q : Act → Prop} {K : ASt → Prop} (hKQ : ∀ st hs a, K st → Sim F st hs a w → Q a) :
    ∀ (l : List Oper) (st : ASt) (hs : Nat → Value) (a : Act), Sim F st hs a w → qaops T ops l st K → wpStill P ops w Q l a
  | [], st, hs, a, h, hk => hKQ st hs a hk h
  | o :: l, st, hs, a, h, hk => by
    simp only [qaops] at hk
    unfold wpStill
    cases hgd : o.guard with
    | none =>
      rw [if_pos (wanted_none hgd)]
      simp only [hgd] at hk
      cases hq : isQuiet T o.op with
      | true =>
        simp only [hq] at hk
        exact quiet_still hT h rfl hk.1 fun v hv => qaops_sound hT hKQ l _ hs _ (h.put o.dst hv) hk.2
      | false => simp only [hq] at hk
    | some p =>
      rw [wanted_some hgd]
      simp only [hgd] at hk
      cases hgo : guardOf ops st p.1 p.2 with
      | none => rw [hgo] at hk; exact hk.elim
      | some g =>
        rw [hgo] at hk
        rw [guardOf_sound h hgo]
        cases hq : isQuiet T o.op with
        | true =>
          simp only [hq] at hk
          cases g with
          | true =>
            simp only [if_true]
            exact quiet_still hT h rfl (hk.1 rfl) fun v hv => qaops_sound hT hKQ l _ hs _ (h.put o.dst (onG_sound rfl hv (qop_need (hk.1 rfl)))) hk.2
          | false =>
            simp only [Bool.false_eq_true, if_false]
            exact qaops_sound hT hKQ l _ hs _ (h.put o.dst (av := onG false (qop T st false o).2) (onG_false _)) hk.2
        | false => simp only [hq] at hk

theorem DrawAt.quiet (hT : TabOK P T) (hm : P.follows .mixedOrders = true) {id : Nat} {ops : Array Oper} {st : ASt} {K : ASt → Prop} (hB : Region.lexB .any ops = true) (h : qaops T ops ops.toList st K) : DrawAt P id ops st K := by
  intro F hs a w hS
  refine wp_region_still hm hB ?_
  exact qaops_sound hT (fun st' hs' a' hK hS' => ⟨st', hs', hK, hS'⟩) ops.toList st hs a hS.drew h

section
variable {s : List AV} {o : List AObj} {n : Nat} {K : ASt → Prop}
theorem qaops_nil {ops : Array Oper} : qaops T ops [] ⟨s, o, n⟩ K = K ⟨s, o, n⟩ := rfl
theorem qaops_cons {ops : Array Oper} {x : Oper} {xs : List Oper} : qaops T ops (x :: xs) ⟨s, o, n⟩ K = (match x.guard with
    | none => match isQuiet T x.op with
      | true => (qop T ⟨s, o, n⟩ true x).1 ∧ qaops T ops xs (ASt.put ⟨s, o, n⟩ x.dst (qop T ⟨s, o, n⟩ true x).2) K
      | false => False
    | some w => match guardOf ops ⟨s, o, n⟩ w.1 w.2 with
      | some g => match isQuiet T x.op with
        | true => (g = true → (qop T ⟨s, o, n⟩ g x).1) ∧ qaops T ops xs (ASt.put ⟨s, o, n⟩ x.dst (onG g (qop T ⟨s, o, n⟩ g x).2)) K
        | false => False
      | none => False) := rfl
end
end
end Go.Vc
