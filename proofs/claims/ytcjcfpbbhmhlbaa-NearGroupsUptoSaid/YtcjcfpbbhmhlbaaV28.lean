/- Own rows become data where a loop ends. -/
import Derived.Test.YtcjcfpbbhmhlbaaV27
set_option linter.unusedVariables false
namespace Go.Vc
section
variable {P : Program} {st : ASt}
theorem AWP.thenFreeze {c : Code} {Q : Exit → ASt → Prop} (o : Nat) (h : AWP P c (fun e st' => Q e (st'.freeze o)) st) : AWP P c Q st :=
  fun F hs a w hS => wp_mono (h F hs a w hS) fun e a w hQ => by
    cases e with
    | outgrown => exact hQ.elim
    | panic c => exact hQ.elim
    | _ => obtain ⟨st', hs', h1, h2⟩ := hQ; exact ⟨st'.freeze o, hs', h1, h2.freeze o⟩
/-- a loop behind which an own row becomes data at once -/
theorem LoopAt.thenFreeze {body : Code} {Q : Exit → ASt → Prop} (o : Nat) (h : LoopAt P body (fun e st' => Q e (st'.freeze o)) st) : LoopAt P body Q st := AWP.thenFreeze o h
end
end Go.Vc
