/- What a rewriting leaves alone; ends of functions. -/
import Derived.Test.YtcjcfpbbhmhlbaaV16
set_option linter.unusedVariables false
set_option linter.unusedSimpArgs false
namespace Go.Vc
section
variable {C : FuncId → List AV → ASt → (AV → ASt → Prop) → Prop} {L : Code → (Exit → ASt → Prop) → ASt → Prop} {D : Nat → Array Oper → ASt → (ASt → Prop) → Prop} {T : Tab}
variable {s : List AV} {o : List AObj} {n : Nat} {Q : Exit → ASt → Prop} {a b : Code} {K : ASt → Prop}
theorem VC_skip : VC C L D T .skip Q ⟨s, o, n⟩ = Q .normal ⟨s, o, n⟩ := rfl
theorem VC_label {i : Nat} : VC C L D T (.label i) Q ⟨s, o, n⟩ = Q .normal ⟨s, o, n⟩ := rfl
theorem VC_region {i : Nat} {ops : Array Oper} : VC C L D T (.region i ops false) Q ⟨s, o, n⟩ = aops C T ops ops.toList ⟨s, o, n⟩ (Q .normal) := rfl
theorem VC_draw {i : Nat} {ops : Array Oper} : VC C L D T (.region i ops true) Q ⟨s, o, n⟩ = D i ops ⟨s, o, n⟩ (Q .normal) := rfl
theorem VC_seq : VC C L D T (.seq a b) Q ⟨s, o, n⟩ = VC C L D T a (fun e st' => match e with
    | .normal => VC C L D T b Q st'
    | .exit i => Q (.exit i) st'
    | .ret => Q .ret st'
    | _ => False) ⟨s, o, n⟩ := rfl
theorem VC_cond {c : Operand} : VC C L D T (.cond c a b) Q ⟨s, o, n⟩ = match (ASt.eval ⟨s, o, n⟩ c) with
    | .c x => match x with
      | .bool t => (t = true → VC C L D T a Q ⟨s, o, n⟩) ∧ (t = false → VC C L D T b Q ⟨s, o, n⟩)
      | _ => False
    | _ => False := rfl
theorem VC_block {id : Nat} : VC C L D T (.block id a) Q ⟨s, o, n⟩ = VC C L D T a (fun e st' => match e with
    | .normal => Q .normal st'
    | .exit i => if i = id then Q .normal st' else Q (.exit i) st'
    | .ret => Q .ret st'
    | _ => False) ⟨s, o, n⟩ := rfl
theorem VC_loop : VC C L D T (.loop a) Q ⟨s, o, n⟩ = L a Q ⟨s, o, n⟩ := rfl
theorem VC_exit {i : Nat} : VC C L D T (.exit i) Q ⟨s, o, n⟩ = Q (.exit i) ⟨s, o, n⟩ := rfl
theorem VC_ret : VC C L D T .ret Q ⟨s, o, n⟩ = Q .ret ⟨s, o, n⟩ := rfl
theorem aops_nil {ops : Array Oper} : aops C T ops [] ⟨s, o, n⟩ K = K ⟨s, o, n⟩ := rfl
theorem aops_cons {ops : Array Oper} {x : Oper} {xs : List Oper} : aops C T ops (x :: xs) ⟨s, o, n⟩ K = (match x.guard with
    | none => match isQuiet T x.op with
      | true => (qop T ⟨s, o, n⟩ true x).1 ∧ aops C T ops xs (ASt.put ⟨s, o, n⟩ x.dst (qop T ⟨s, o, n⟩ true x).2) K
      | false => aop C T x ⟨s, o, n⟩ (fun st' => aops C T ops xs st' K)
    | some w => match guardOf ops ⟨s, o, n⟩ w.1 w.2 with
      | some g => match isQuiet T x.op with
        | true => (g = true → (qop T ⟨s, o, n⟩ g x).1) ∧ aops C T ops xs (ASt.put ⟨s, o, n⟩ x.dst (onG g (qop T ⟨s, o, n⟩ g x).2)) K
        | false => (g = true → aop C T x ⟨s, o, n⟩ (fun st' => aops C T ops xs st' K)) ∧ (g = false → aops C T ops xs (ASt.put ⟨s, o, n⟩ x.dst (.c .junk)) K)
      | none => False) := rfl
theorem ex_rfl {β : Type} {p : β = β → Prop} : (∃ h : β = β, p h) = p rfl := propext ⟨fun ⟨_, h⟩ => h, fun h => ⟨rfl, h⟩⟩
theorem put_some {d : Nat} {v : AV} : ASt.put ⟨s, o, n⟩ (some d) v = ⟨s.set d v, o, n⟩ := rfl
theorem put_none {v : AV} : ASt.put ⟨s, o, n⟩ none v = ⟨s, o, n⟩ := rfl
end

theorem RetAt.of {T : Tab} {rs : List ResultVar} {n : Nat} {K : AV → List AObj → Prop} {st : ASt} (keep : List Nat) (h0 : st.n0 = n) (hr : (resOf T st rs).1) (hk : keep.take n = List.range n) (hn : n ≤ keep.length) (hd : keep.Nodup)
    (h : K ((tupOf (resOf T st rs).2).map (AC.ren fun p => findIx p keep 0)) (keepObjs st.objs keep)) : RetAt T rs n K st :=
  ⟨h0, hr, keep, by rw [h0]; exact hk, by rw [h0]; exact hn, hd, h⟩

/-- an end that keeps no object -/
theorem RetAt.leaf {T : Tab} {rs : List ResultVar} {K : AV → List AObj → Prop} {slots : List AV} {objs : List AObj} (hr : (resOf T ⟨slots, objs, 0⟩ rs).1)
    (h : K ((tupOf (resOf T ⟨slots, objs, 0⟩ rs).2).map (AC.ren fun p => findIx p [] 0)) []) : RetAt T rs 0 K ⟨slots, objs, 0⟩ :=
  RetAt.of [] rfl hr rfl (Nat.le_refl _) .nil h
/-- an end that keeps objects -/
theorem RetAt.keeping {T : Tab} {rs : List ResultVar} {K : AV → List AObj → Prop} {slots : List AV} {objs : List AObj} (keep : List Nat) (hd : keep.Nodup) (hr : (resOf T ⟨slots, objs, 0⟩ rs).1)
    (h : K ((tupOf (resOf T ⟨slots, objs, 0⟩ rs).2).map (AC.ren fun p => findIx p keep 0)) (keepObjs objs keep)) : RetAt T rs 0 K ⟨slots, objs, 0⟩ :=
  RetAt.of keep rfl hr (by simp) (Nat.zero_le _) hd h

/-- a call that is lent nothing and shown nothing -/
theorem CallAt.plain {P : Program} {f : FuncId} {args : List AV} {st : ASt} {K : AV → ASt → Prop} {args' : List AV} {K' : AV → List AObj → Prop} (h : ACall P f args' [] K')
    (ha : args' = args.map (AV.map (callArg st.objs [] []))) (hK : ∀ r os, K' r os → K (r.map (AC.ren (backIx [] st.objs.length))) (afterCall st [] os)) : CallAt P f args st K :=
  CallAt.call [] [] h .nil (fun _ h => by cases h) (fun _ h => by cases h) ha rfl (.inl rfl) hK
end Go.Vc
